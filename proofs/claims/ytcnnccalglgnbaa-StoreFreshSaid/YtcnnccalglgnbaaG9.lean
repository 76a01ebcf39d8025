import Derived.Test.YtcnnccalglgnbaaG8
set_option linter.unusedSimpArgs false
set_option linter.unusedVariables false
set_option maxRecDepth 100000
/- addresses without twins -/
namespace Go.Proofs
open Go Go.Am
theorem rises_ex : ∀ (l : List Addr20), (l.Pairwise fun x y => addrN x ≤ addrN y) → ∃ L, RisesA L ∧ ∀ x, x ∈ L ↔ x ∈ l
  | [], _ => ⟨[], .nil, fun _ => Iff.rfl⟩
  | x :: l, h => by
    rw [List.pairwise_cons] at h
    obtain ⟨L, h1, h2⟩ := rises_ex l h.2
    by_cases hx : x ∈ l
    · refine ⟨L, h1, fun y => ?_⟩
      rw [h2, List.mem_cons]
      exact ⟨.inr, fun hy => hy.elim (fun e => e ▸ hx) id⟩
    · refine ⟨x :: L, List.pairwise_cons.2 ⟨fun y hy => ?_, h1⟩, fun y => ?_⟩
      · have h3 := h.1 y ((h2 y).1 hy)
        have h4 : addrN x ≠ addrN y := fun e => hx (by rw [addrN_inj e]; exact (h2 y).1 hy)
        omega
      · rw [List.mem_cons, List.mem_cons, h2]
theorem part_addrs {l : List Addr20} {i : Nat} (hi : i < l.length) : (flatV encAddr l).extract (i * 20) (i * 20 + 20) = (encAddr l[i]).toArray :=
  part_cells length_encAddr (by rw [← flat_size length_encAddr l, Array.extract_size]) hi
set_option maxHeartbeats 4000000 in
theorem compact_calls {H : AH} {q : Nat} {l : List Addr20} (hq : H[q]? = some (outO encAddr 20 l)) (hs : l.Pairwise fun x y => addrN x ≤ addrN y) (hl : l.length < 2 ^ 62) :
    ACalls Try.prog 42 #[outV q l] H (fun v h' => ∃ L O, RowAt encAddr 20 h' v O L ∧ RisesA L ∧ (∀ x, x ∈ L ↔ x ∈ l) ∧ Am.Rest [q] H h' ∧ ∀ i ∈ O, i = q) := by
  have hql : q < H.length := (List.getElem?_eq_some_iff.1 hq).1
  have inh : ∃ (v : Value) (h' : AH) (L : List Addr20) (O : List Nat), RowAt encAddr 20 h' v O L ∧ RisesA L ∧ (∀ x, x ∈ L ↔ x ∈ l) ∧ Am.Rest [q] H h' ∧ ∀ i ∈ O, i = q := by
    obtain ⟨L, h1, h2⟩ := rises_ex l hs
    refine ⟨.slice (some ⟨q, 0, none⟩) L.length L.length, H.set q (.cells (flatV encAddr L) 20 true), L, [q], .inr ⟨q, _, L.length, rfl, rfl, List.getElem?_set_self hql, flat_size length_encAddr L, Nat.le_refl _, ?_⟩, h1, h2, Rest.set (by simp), by simp⟩
    rw [← flat_size length_encAddr L, Array.extract_size]
  by_cases h2 : l.length < 2
  · have h2' : ((l.length : Nat) : Int) < 2 := by omega
    refine ACalls.of_ay Try.func42 rfl Try.ntmps42 inh ?_; simp only [List.length_cons, List.length_nil, Nat.reduceAdd, Nat.reduceSub, List.replicate_succ, List.replicate_zero, List.cons_append, List.nil_append]
    simp (implicitDefEqProofs := false) (maxSteps := 2000000) only [go_sem, Nat.reduceAdd, Nat.reduceSub, Nat.reduceMul, Nat.reduceLT, Nat.reduceLeDiff, Nat.reduceEqDiff, Nat.reduceBEq, Nat.reduceBNe, Nat.reducePow, Int.reduceBEq, Int.reduceBNe, Int.reduceEq, Int.reduceLT, Int.reduceLE, Int.reduceNeg, Int.reduceToNat, Int.reduceMul, Int.reduceAdd, Int.reduceSub, Int.reducePow, Int.reduceFDiv, reduceCtorEq, reduceIte, h2']
    match l, hq, h2 with
    | [], hq, _ => exact ⟨.slice none 0 0, .slice none 0 0, H, by rw [aresults_tmp rfl, getD_lit]; rfl, Eases.refl, [], [], .nil, .nil, fun _ => Iff.rfl, Rest.refl _ _, by simp⟩
    | [x], hq, _ =>
      refine ⟨.slice (some ⟨q, 0, none⟩) 1 1, .slice (some ⟨q, 0, none⟩) 1 1, H, by rw [aresults_tmp rfl, getD_lit]; rfl, Eases.refl, [x], [q], .inr ⟨q, flatV encAddr [x], 1, rfl, rfl, hq, flat_size length_encAddr [x], Nat.le_refl _, ?_⟩, by simp [RisesA], fun _ => Iff.rfl, Rest.refl _ _, by simp⟩
      have := flat_size length_encAddr [x]
      show (flatV encAddr [x]).extract 0 (1 * 20) = _
      rw [show (1 : Nat) * 20 = (flatV encAddr [x]).size from this.symm, Array.extract_size]
    | _ :: _ :: _, _, h => simp only [List.length_cons] at h; omega
  · have hne : l ≠ [] := fun e => by rw [e] at h2; simp at h2
    rw [outV_ne hne]
    rw [outO_ne hne] at hq
    have h2' : ¬ ((l.length : Nat) : Int) < 2 := by omega
    refine ACalls.of_ay Try.func42 rfl Try.ntmps42 inh ?_; simp only [List.length_cons, List.length_nil, Nat.reduceAdd, Nat.reduceSub, List.replicate_succ, List.replicate_zero, List.cons_append, List.nil_append]
    simp (implicitDefEqProofs := false) (maxSteps := 2000000) only [go_sem, Nat.reduceAdd, Nat.reduceSub, Nat.reduceMul, Nat.reduceLT, Nat.reduceLeDiff, Nat.reduceEqDiff, Nat.reduceBEq, Nat.reduceBNe, Nat.reducePow, Int.reduceBEq, Int.reduceBNe, Int.reduceEq, Int.reduceLT, Int.reduceLE, Int.reduceNeg, Int.reduceToNat, Int.reduceMul, Int.reduceAdd, Int.reduceSub, Int.reducePow, Int.reduceFDiv, reduceCtorEq, reduceIte, h2']
    refine AWP.loopI (fun i : Nat => l.length - i) (fun i => [.slice (some ⟨q, 0, none⟩) l.length l.length, junk, junk, .int .i64 ((i : Nat) : Int), junk, junk, junk, junk, junk, junk, junk, junk, junk, junk, junk, junk, junk, junk, junk, junk, junk, junk, junk, junk, junk, junk, junk, junk, junk, junk, junk, junk, junk, junk, junk, junk, junk, junk, junk, junk, junk, junk, junk, junk, junk, junk, junk, junk, junk, junk, junk, junk, junk, junk, junk, junk, junk, junk, junk, junk, junk]) (fun _ => H) (fun i => 1 ≤ i ∧ i ≤ l.length ∧ RisesA (l.take i)) 1 ⟨Nat.le_refl _, by omega, ?_⟩ (KeepsJ.ease ?_) ?_
    · match l, hne with
      | x :: l, _ => simp [RisesA]
    · repeat (first | exact .nil | refine .keep _ ?_ | refine .junk _ ?_)
    · rintro i ⟨hi1, hi2, hr⟩
      by_cases hlt : i < l.length
      · have hlt' : ((i : Nat) : Int) < ((l.length : Nat) : Int) := by omega
        have hge : (0 : Int) ≤ ((i : Nat) : Int) := by omega
        have hge1 : (0 : Int) ≤ ((i - 1 : Nat) : Int) := by omega
        have hlt1 : ((i - 1 : Nat) : Int) < ((l.length : Nat) : Int) := by omega
        have hwm : IntKind.i64.wrap (((i : Nat) : Int) - 1) = ((i - 1 : Nat) : Int) := by rw [wrap_i64_of (((i : Nat) : Int) - 1) (by omega) (by omega)]; omega
        have hwp : IntKind.i64.wrap (((i : Nat) : Int) + 1) = ((i + 1 : Nat) : Int) := by rw [wrap_i64_of (((i : Nat) : Int) + 1) (by omega) (by omega)]; omega
        have hsz : (flatV encAddr l).size = l.length * 20 := flat_size length_encAddr l
        have hle : i * 20 + 20 ≤ l.length * 20 := by omega
        have hle1 : (i - 1) * 20 + 20 ≤ l.length * 20 := by omega
        have hp0 := part_addrs hlt
        have hp1 := part_addrs (l := l) (i := i - 1) (by omega)
        have hil : ((i : Nat) : Int) ≤ ((l.length : Nat) : Int) := by omega
        by_cases heq : l[i] = l[i - 1]
        · simp (implicitDefEqProofs := false) (maxSteps := 2000000) only [go_sem, Nat.reduceAdd, Nat.reduceSub, Nat.reduceMul, Nat.reduceLT, Nat.reduceLeDiff, Nat.reduceEqDiff, Nat.reduceBEq, Nat.reduceBNe, Nat.reducePow, Int.reduceBEq, Int.reduceBNe, Int.reduceEq, Int.reduceLT, Int.reduceLE, Int.reduceNeg, Int.reduceToNat, Int.reduceMul, Int.reduceAdd, Int.reduceSub, Int.reducePow, Int.reduceFDiv, reduceCtorEq, reduceIte, hlt', hge, hge1, hlt1, hwm, hq, hsz, hle, hle1, hp0, hp1, heq, hil, Nat.le_refl, or_true, false_or]
          refine ⟨by kernel_rfl, by kernel_rfl, ?_⟩
          refine AWP.loopI (ι := List Addr20 × Nat × Nat) (fun s => l.length - s.2.2) (fun s => [.slice (some ⟨q, 0, none⟩) l.length l.length, junk, junk, .int .i64 ((s.2.1 : Nat) : Int), .slice (some ⟨q, i * 20, none⟩) (l.length - i) (l.length - i), .int .i64 ((s.2.2 - i : Nat) : Int), junk, junk, junk, junk, junk, junk, junk, junk, junk, junk, junk, junk, junk, junk, junk, junk, junk, junk, junk, junk, junk, junk, junk, junk, junk, junk, junk, junk, junk, junk, junk, junk, junk, junk, junk, junk, junk, junk, junk, junk, junk, junk, junk, junk, junk, junk, junk, junk, junk, junk, junk, junk, junk, junk, junk]) (fun s => H.set q (.cells (flatV encAddr s.1) 20 true)) (fun s => i + 1 ≤ s.2.2 ∧ Cmpct l s.1 s.2.1 s.2.2) (l, i, i + 1) ⟨Nat.le_refl _, ?_⟩ ?_ ?_
          · show Cmpct l l i (i + 1)
            refine ⟨rfl, hi1, Nat.le_refl _, hlt, hr, fun x => ?_, rfl, fun hj x hx => ?_⟩
            · rw [List.take_add_one, List.getElem?_eq_getElem hlt, List.mem_append]
              constructor
              · exact .inl
              · rintro (h | h)
                · exact h
                · simp at h
                  subst h
                  rw [heq, List.mem_take_iff_getElem]
                  exact ⟨i - 1, by omega, rfl⟩
            · rw [List.mem_take_iff_getElem] at hx
              obtain ⟨k, hk, rfl⟩ := hx
              simp only [Nat.add_sub_cancel]
              by_cases hki : k = i
              · subst hki; exact Nat.le_refl _
              · exact List.pairwise_iff_getElem.1 hs k i (by omega) hlt (by omega)
          · rw [set_same hq]
            refine KeepsJ.ease ?_
            rw [show i + 1 - i = 1 by omega]
            repeat (first | exact .nil | refine .keep _ ?_ | refine .junk _ ?_)
          · rintro ⟨X, k, j⟩ ⟨hj1, c⟩
            simp only at hj1 c ⊢
            have hset : ∀ o : AObj, (H.set q o)[q]? = some o := fun o => List.getElem?_set_self hql
            have hszX : (flatV encAddr X).size = l.length * 20 := by rw [flat_size length_encAddr X, c.len]
            by_cases hjl : j < l.length
            · have hc1 : ((j - i : Nat) : Int) < ((l.length - i : Nat) : Int) := by omega
              have hc2 : (0 : Int) ≤ ((j - i : Nat) : Int) := by omega
              have hc3 : (0 : Int) ≤ ((j - i - 1 : Nat) : Int) := by omega
              have hc4 : ((j - i - 1 : Nat) : Int) < ((l.length - i : Nat) : Int) := by omega
              have hw2 : IntKind.i64.wrap (((j - i : Nat) : Int) - 1) = ((j - i - 1 : Nat) : Int) := by rw [wrap_i64_of (((j - i : Nat) : Int) - 1) (by omega) (by omega)]; omega
              have hw3 : IntKind.i64.wrap (((j - i : Nat) : Int) + 1) = ((j + 1 - i : Nat) : Int) := by rw [wrap_i64_of (((j - i : Nat) : Int) + 1) (by omega) (by omega)]; omega
              have hw4 : IntKind.i64.wrap (((k : Nat) : Int) + 1) = ((k + 1 : Nat) : Int) := by have := c.kj; rw [wrap_i64_of (((k : Nat) : Int) + 1) (by omega) (by omega)]; omega
              have hk0 : (0 : Int) ≤ ((k : Nat) : Int) := by omega
              have hkl : ((k : Nat) : Int) < ((l.length : Nat) : Int) := by have := c.kj; omega
              have e1 : i * 20 + (j - i) * 20 = j * 20 := by omega
              have e2 : i * 20 + (j - i - 1) * 20 = (j - 1) * 20 := by omega
              have hp2 := part_addrs (l := X) (i := j) (by rw [c.len]; exact hjl)
              have hp3 := part_addrs (l := X) (i := j - 1) (by rw [c.len]; omega)
              rw [c.get (by omega) hjl] at hp2
              rw [c.get (Nat.le_refl _) (by omega)] at hp3
              have hb1 : j * 20 + 20 ≤ l.length * 20 := by omega
              have hb2 : (j - 1) * 20 + 20 ≤ l.length * 20 := by omega
              have hb3 : k * 20 + 20 ≤ l.length * 20 := by have := c.kj; omega
              have hfs := flat_set length_encAddr (l := X) (k := k) (by have := c.kj; rw [c.len]; omega) l[j]
              by_cases hne2 : l[j] = l[j - 1]
              · simp (implicitDefEqProofs := false) (maxSteps := 2000000) only [go_sem, Nat.reduceAdd, Nat.reduceSub, Nat.reduceMul, Nat.reduceLT, Nat.reduceLeDiff, Nat.reduceEqDiff, Nat.reduceBEq, Nat.reduceBNe, Nat.reducePow, Int.reduceBEq, Int.reduceBNe, Int.reduceEq, Int.reduceLT, Int.reduceLE, Int.reduceNeg, Int.reduceToNat, Int.reduceMul, Int.reduceAdd, Int.reduceSub, Int.reducePow, Int.reduceFDiv, reduceCtorEq, reduceIte, hc1, hc2, hc3, hc4, hw2, hw3, hset, hszX, e1, e2, hp2, hp3, hb1, hb2, hne2]
                refine ⟨by kernel_rfl, by kernel_rfl, ?_⟩
                refine ⟨(X, k, j + 1), by simp only; omega, ⟨by simp only; omega, c.same hjl hne2⟩, KeepsJ.ease ?_⟩
                repeat (first | exact .nil | refine .keep _ ?_ | refine .junk _ ?_)
              · simp (implicitDefEqProofs := false) (maxSteps := 2000000) only [go_sem, Nat.reduceAdd, Nat.reduceSub, Nat.reduceMul, Nat.reduceLT, Nat.reduceLeDiff, Nat.reduceEqDiff, Nat.reduceBEq, Nat.reduceBNe, Nat.reducePow, Int.reduceBEq, Int.reduceBNe, Int.reduceEq, Int.reduceLT, Int.reduceLE, Int.reduceNeg, Int.reduceToNat, Int.reduceMul, Int.reduceAdd, Int.reduceSub, Int.reducePow, Int.reduceFDiv, reduceCtorEq, reduceIte, hc1, hc2, hc3, hc4, hw2, hw3, hw4, hset, hszX, e1, e2, hp2, hp3, hb1, hb2, hb3, hk0, hkl, hne2, hfs, List.set_set, length_encAddr]
                refine ⟨by kernel_rfl, by kernel_rfl, ?_⟩
                refine ⟨(X.set k l[j], k + 1, j + 1), by simp only; omega, ⟨by simp only; omega, c.more hjl ?_⟩, KeepsJ.ease ?_⟩
                · have h1 := List.pairwise_iff_getElem.1 hs (j - 1) j (by omega) hjl (by omega)
                  have h3 : addrN l[j - 1] ≠ addrN l[j] := fun e => hne2 (addrN_inj e).symm
                  omega
                · repeat (first | exact .nil | refine .keep _ ?_ | refine .junk _ ?_)
            · have hc1 : ¬ ((j - i : Nat) : Int) < ((l.length - i : Nat) : Int) := by omega
              have hje : j = l.length := by have := c.jl; omega
              have hk2 : k ≤ l.length := by have := c.kj; omega
              have hk3 : ((k : Nat) : Int) ≤ ((l.length : Nat) : Int) := by omega
              have hk0 : (0 : Int) ≤ ((k : Nat) : Int) := by omega
              have hclr : aclear Try.prog (H.set q (.cells (flatV encAddr X) 20 true)) 87 (.slice (some ⟨q, k * 20, none⟩) (l.length - k) (l.length - k)) = some (.tuple #[], H.set q (.cells (blit (flatV encAddr X) (k * 20) (zeros (Array.replicate 20 (.int .u8 0)) ((l.length - k) * 20)).toList) 20 true)) := by
                have hn : l.length - k ≠ 0 := by have := c.kj; omega
                unfold aclear
                rw [Try.underlying87]
                simp only [hn, if_false, Try.zero26, hset, hszX, Array.size_replicate, List.set_set]
                rw [if_pos (by omega)]
              simp (implicitDefEqProofs := false) (maxSteps := 2000000) only [go_sem, Nat.reduceAdd, Nat.reduceSub, Nat.reduceMul, Nat.reduceLT, Nat.reduceLeDiff, Nat.reduceEqDiff, Nat.reduceBEq, Nat.reduceBNe, Nat.reducePow, Int.reduceBEq, Int.reduceBNe, Int.reduceEq, Int.reduceLT, Int.reduceLE, Int.reduceNeg, Int.reduceToNat, Int.reduceMul, Int.reduceAdd, Int.reduceSub, Int.reducePow, Int.reduceFDiv, reduceCtorEq, reduceIte, hc1, hset, hk2, hk3, hk0, Nat.le_refl, or_true, hclr, List.set_set]
              have hfin : (blit (flatV encAddr X) (k * 20) (zeros (Array.replicate 20 (Value.int .u8 0)) ((l.length - k) * 20)).toList).extract 0 (k * 20) = flatV encAddr (X.take k) := by
                have e1 := flat_extract length_encAddr X 0 k
                rw [Nat.zero_mul, List.drop_zero] at e1
                rw [← e1]
                apply Array.ext_getElem?
                intro i'
                simp only [Array.getElem?_extract, size_blit]
                split
                · rw [W.get_blit _ _ _ _ (by omega)]
                · rfl
              refine ⟨.slice (some ⟨q, 0, none⟩) k l.length, .slice (some ⟨q, 0, none⟩) k l.length, _, by rw [aresults_tmp rfl, getD_lit]; rfl, Eases.refl, X.take k, [q], .inr ⟨q, _, l.length, ?_, rfl, List.getElem?_set_self hql, ?_, ?_, ?_⟩, c.rises, fun x => ?_, Rest.set (by simp), by simp⟩
              · rw [List.length_take, Nat.min_eq_left (by rw [c.len]; exact hk2)]
              · rw [size_blit, hszX]
              · rw [List.length_take]; omega
              · rw [List.length_take, Nat.min_eq_left (by rw [c.len]; exact hk2)]; exact hfin
              · rw [c.mem, hje, List.take_length]
        · simp (implicitDefEqProofs := false) (maxSteps := 2000000) only [go_sem, Nat.reduceAdd, Nat.reduceSub, Nat.reduceMul, Nat.reduceLT, Nat.reduceLeDiff, Nat.reduceEqDiff, Nat.reduceBEq, Nat.reduceBNe, Nat.reducePow, Int.reduceBEq, Int.reduceBNe, Int.reduceEq, Int.reduceLT, Int.reduceLE, Int.reduceNeg, Int.reduceToNat, Int.reduceMul, Int.reduceAdd, Int.reduceSub, Int.reducePow, Int.reduceFDiv, reduceCtorEq, reduceIte, hlt', hge, hge1, hlt1, hwm, hq, hsz, hle, hle1, hp0, hp1, heq, hwp]
          refine ⟨by kernel_rfl, by kernel_rfl, ?_⟩
          refine ⟨i + 1, by omega, ⟨by omega, hlt, ?_⟩, KeepsJ.ease ?_⟩
          · rw [List.take_add_one, List.getElem?_eq_getElem hlt]
            unfold RisesA
            rw [Option.toList_some, List.pairwise_append]
            refine ⟨hr, by simp, fun x hx y hy => ?_⟩
            simp at hy; subst hy
            rw [List.mem_take_iff_getElem] at hx
            obtain ⟨k, hk, rfl⟩ := hx
            have h1 := List.pairwise_iff_getElem.1 hs (i - 1) i (by omega) hlt (by omega)
            have h3 : addrN l[i - 1] ≠ addrN l[i] := fun e => heq (addrN_inj e).symm
            have h4 : addrN l[k] ≤ addrN l[i - 1] := by
              by_cases hki : k = i - 1
              · subst hki; exact Nat.le_refl _
              · exact List.pairwise_iff_getElem.1 hs k (i - 1) (by omega) (by omega) (by omega)
            omega
          · repeat (first | exact .nil | refine .keep _ ?_ | refine .junk _ ?_)
      · have hlt' : ¬ ((i : Nat) : Int) < ((l.length : Nat) : Int) := by omega
        simp (implicitDefEqProofs := false) (maxSteps := 2000000) only [go_sem, Nat.reduceAdd, Nat.reduceSub, Nat.reduceMul, Nat.reduceLT, Nat.reduceLeDiff, Nat.reduceEqDiff, Nat.reduceBEq, Nat.reduceBNe, Nat.reducePow, Int.reduceBEq, Int.reduceBNe, Int.reduceEq, Int.reduceLT, Int.reduceLE, Int.reduceNeg, Int.reduceToNat, Int.reduceMul, Int.reduceAdd, Int.reduceSub, Int.reducePow, Int.reduceFDiv, reduceCtorEq, reduceIte, hlt']
        have hie : i = l.length := by omega
        rw [hie, List.take_length] at hr
        refine ⟨.slice (some ⟨q, 0, none⟩) l.length l.length, .slice (some ⟨q, 0, none⟩) l.length l.length, H, by rw [aresults_tmp rfl, getD_lit]; rfl, Eases.refl, l, [q], .inr ⟨q, flatV encAddr l, l.length, rfl, rfl, hq, flat_size length_encAddr l, Nat.le_refl _, ?_⟩, hr, fun x => Iff.rfl, Rest.refl _ _, by simp⟩
        rw [← flat_size length_encAddr l, Array.extract_size]
end Go.Proofs

set_option linter.unusedSimpArgs false
set_option linter.unusedVariables false
set_option maxRecDepth 100000
/- accounts that are told: each one's slots, so far -/
namespace Go.Proofs
open Go Go.Am
abbrev encRow (p : Row × Nat) : Value := p.1.val p.2
/-- each account's slots: a map of rows -/
structure OwnAt (H : AH) (base bo : Nat) (es : Array MapEntry) (ck : Nat) (O : Addr20 → Option (Row × Nat)) (F : Addr20 → List Slt) : Prop where
  map : H[bo]? = some (.map 26 es ck)
  new : base ≤ bo
  fO : MFun Try.prog 26 keyAddr encRow es ck O
  none_ : ∀ a, O a = none → F a = []
  some_ : ∀ a r n, O a = some (r, n) → n = (F a).length ∧ F a ≠ [] ∧ Holds H (r.lay 8) ∧ r.Is encSlt 8 (F a) ∧ ∀ i ∈ (r.lay 8).own, base ≤ i
  apart : ∀ a a' r r' n n', a ≠ a' → O a = some (r, n) → O a' = some (r', n') → ∀ i ∈ (r.lay 8).own, i ∉ (r'.lay 8).own
theorem row_ne_map {H : AH} {r : Row} {m bo : Nat} {k : TypeId} {es : Array MapEntry} {ck : Nat} (h : Holds H (r.lay m)) (hb : H[bo]? = some (.map k es ck)) : ∀ i ∈ (r.lay m).own, i ≠ bo := by
  intro i hi e
  subst e
  cases r with
  | none => simp [Row.lay, Lay.own] at hi
  | some p =>
    obtain ⟨b, c, cap⟩ := p
    simp [Row.lay, Lay.own] at hi
    subst hi
    have := h.get (b := i) (o := .cells c m true) (by simp [Row.lay])
    rw [hb] at this; cases this
/-- where others write, they stay -/
theorem OwnAt.rest {H H' : AH} {base bo : Nat} {es : Array MapEntry} {ck : Nat} {O : Addr20 → Option (Row × Nat)} {F : Addr20 → List Slt} {Q : List Nat} (w : OwnAt H base bo es ck O F) (r : Am.Rest Q H H') (h1 : bo ∉ Q) (h2 : ∀ a x n, O a = some (x, n) → ∀ i ∈ (x.lay 8).own, i ∉ Q) : OwnAt H' base bo es ck O F :=
  ⟨r.same _ _ w.map rfl h1, w.new, w.fO, w.none_, fun a x n h => by
    obtain ⟨q1, q2, q3, q4, q5⟩ := w.some_ a x n h
    exact ⟨q1, q2, q3.rest r (h2 a x n h), q4, q5⟩, w.apart⟩
theorem OwnAt.app {H t : AH} {base bo : Nat} {es : Array MapEntry} {ck : Nat} {O : Addr20 → Option (Row × Nat)} {F : Addr20 → List Slt} (w : OwnAt H base bo es ck O F) : OwnAt (H ++ t) base bo es ck O F := w.rest (Rest.app (O := [])) (by simp) (fun _ _ _ _ _ _ => by simp)
/-- one slot more -/
theorem OwnAt.more {H : AH} {base bo : Nat} {es : Array MapEntry} {ck : Nat} {O : Addr20 → Option (Row × Nat)} {F : Addr20 → List Slt} (w : OwnAt H base bo es ck O F) (hbl : base ≤ H.length) (a : Addr20) (s : Slt) (hn : (F a).length < 2 ^ 30) :
    ∃ (v v' : Value) (bn : Nat) (H1 H2 H3 : AH) (es' : Array MapEntry) (ck' : Nat) (O' : Addr20 → Option (Row × Nat)),
      amEntry Try.prog H 79 (.map (some bo)) (keyAddr a) = some (.tuple #[v, .int .i64 (bn : Nat)], H1) ∧
      mkApp H1 v (some (true, 8, 64)) (some (1, (encSlt s).toArray)) = some (v', H2) ∧
      amEntryStore H2 (.map (some bo)) (.int .i64 (bn : Nat)) v' = some H3 ∧
      OwnAt H3 base bo es' ck' O' (fun y => if y = a then F y ++ [s] else F y) ∧ (∃ Q, Am.Rest Q H H3 ∧ ∀ i ∈ Q, base ≤ i) ∧ (∀ i, H[i]? ≠ none → i < base → H1[i]? = H[i]?) ∧ ∀ (i : Nat) (o : AObj), H[i]? = some o → (∀ k es ck, o ≠ .map k es ck) → H1[i]? = some o := by
  have hlt : bo < H.length := (List.getElem?_eq_some_iff.1 w.map).1
  have hnew := w.new
  cases ho : O a with
  | none =>
    have hf := w.fO.find_none ho
    have hF := w.none_ a ho
    have e1 := amEntry_none (P := Try.prog) (h := H) (t := 79) (b := bo) (key := keyAddr a) Try.mp79 (keyedAddr a) w.map hf
    have hb1 : (H.set bo (.map 26 (es.push ⟨keyAddr a, .slice none 0 0, ck⟩) (ck + 1)))[bo]? = some (.map 26 (es.push ⟨keyAddr a, .slice none 0 0, ck⟩) (ck + 1)) := List.getElem?_set_self hlt
    obtain ⟨r', H2, a1, a2, a3, a4, a5⟩ := Row.append (H := H.set bo (.map 26 (es.push ⟨keyAddr a, .slice none 0 0, ck⟩) (ck + 1))) (r := none) (l := ([] : List Slt)) (enc := encSlt) (m := 8) (g := true) (by_ := 64) Holds.nil rfl length_encSlt s (by simp)
    have hb2 : H2[bo]? = some (.map 26 (es.push ⟨keyAddr a, .slice none 0 0, ck⟩) (ck + 1)) := a4.same _ _ hb1 rfl (by simp [Row.lay, Lay.own])
    have e3 := store_new' (v := r'.val 1) w.fO.ok hb2
    have hlt2 : bo < H2.length := (List.getElem?_eq_some_iff.1 hb2).1
    have r2 : Am.Rest [bo] H H2 := (Rest.set (O := [bo]) (by simp)).trans (a4.mono (O' := [bo]) (by simp [Row.lay, Lay.own])) (Gets.refl _ _)
    have r3 : Am.Rest [bo] H (H2.set bo (.map 26 (es.push ⟨keyAddr a, r'.val 1, ck⟩) (ck + 1))) := r2.trans (Rest.set (O := [bo]) (by simp)) (Gets.refl _ _)
    have own2 : ∀ i ∈ (r'.lay 8).own, H.length ≤ i := fun i hi => by
      rcases a5 i hi with h | h
      · simp [Row.lay, Lay.own] at h
      · simpa using h
    refine ⟨.slice none 0 0, r'.val 1, ck, _, H2, _, _, _, _, e1, a1, e3, ⟨List.getElem?_set_self hlt2, w.new, w.fO.push ho (r', 1), fun y hy => ?_, fun y r n hy => ?_, fun y y' r r2 n n2 hne hy hy' => ?_⟩, ⟨[bo], r3, by simpa using w.new⟩, fun i _ hi => List.getElem?_set_ne (by omega), fun i o hi hno => ?_⟩
    · by_cases hya : y = a
      · simp [hya] at hy
      · simp only [hya, if_false] at hy ⊢; exact w.none_ y hy
    · by_cases hya : y = a
      · subst hya
        simp only [if_true, Option.some.injEq, Prod.mk.injEq] at hy ⊢
        obtain ⟨rfl, rfl⟩ := hy
        rw [hF]
        refine ⟨rfl, by simp, ?_, a3, fun i hi => by have := own2 i hi; omega⟩
        exact a2.rest (Rest.set (O := [bo]) (by simp)) fun i hi => by have := own2 i hi; simp; omega
      · simp only [hya, if_false] at hy ⊢
        obtain ⟨q1, q2, q3, q4, q5⟩ := w.some_ y r n hy
        exact ⟨q1, q2, q3.rest r3 fun i hi => by simpa using row_ne_map q3 w.map i hi, q4, q5⟩
    · by_cases hya : y = a
      · subst hya
        have hy'a : ¬ y' = y := fun e => hne e.symm
        simp only [if_true, Option.some.injEq, Prod.mk.injEq, hy'a, if_false] at hy hy'
        obtain ⟨rfl, rfl⟩ := hy
        intro i hi hi2
        have h1 := own2 i hi
        obtain ⟨_, _, q3, _, _⟩ := w.some_ y' r2 n2 hy'
        have := q3.below i hi2
        omega
      · simp only [hya, if_false] at hy
        by_cases hya2 : y' = a
        · subst hya2
          simp only [if_true, Option.some.injEq, Prod.mk.injEq] at hy'
          obtain ⟨rfl, rfl⟩ := hy'
          intro i hi hi2
          have h1 := own2 i hi2
          obtain ⟨_, _, q3, _, _⟩ := w.some_ y r n hy
          have := q3.below i hi
          omega
        · simp only [hya2, if_false] at hy'
          exact w.apart y y' r r2 n n2 hne hy hy'
    · rw [List.getElem?_set_ne (fun e => by subst e; rw [w.map] at hi; cases hi; exact hno _ _ _ rfl)]; exact hi
  | some p =>
    obtain ⟨r, n⟩ := p
    obtain ⟨q1, q2, q3, q4, q5⟩ := w.some_ a r n ho
    subst q1
    obtain ⟨j, x, hf, hxv⟩ := w.fO.find_some ho
    have e1 := amEntry_some (P := Try.prog) (h := H) (t := 79) (b := bo) (key := keyAddr a) Try.mp79 (keyedAddr a) w.map hf
    rw [hxv] at e1
    have hb1 : (H.set bo (.map 26 (es.modify j fun e => { e with key := keyAddr a }) ck))[bo]? = some (.map 26 (es.modify j fun e => { e with key := keyAddr a }) ck) := List.getElem?_set_self hlt
    have hnb : ∀ i ∈ (r.lay 8).own, i ∉ [bo] := fun i hi => by simpa using row_ne_map q3 w.map i hi
    obtain ⟨r', H2, a1, a2, a3, a4, a5⟩ := Row.append (g := true) (by_ := 64) (q3.rest (Rest.set (O := [bo]) (b := bo) (H := H) (o := .map 26 (es.modify j fun e => { e with key := keyAddr a }) ck) (by simp)) hnb) q4 length_encSlt s ⟨by omega, by omega⟩
    have hbr : bo ∉ (r.lay 8).own := fun h => hnb bo h (by simp)
    have hb2 : H2[bo]? = some (.map 26 (es.modify j fun e => { e with key := keyAddr a }) ck) := a4.same _ _ hb1 rfl hbr
    have e3 := store_old' (v := r'.val ((F a).length + 1)) w.fO.ok (keyedAddr a) hf hb2
    have hlt2 : bo < H2.length := (List.getElem?_eq_some_iff.1 hb2).1
    have r2 : Am.Rest (bo :: (r.lay 8).own) H H2 := (Rest.set (O := bo :: (r.lay 8).own) (by simp)).trans (a4.mono (O' := bo :: (r.lay 8).own) (fun i hi => List.mem_cons_of_mem _ hi)) (Gets.refl _ _)
    have r3 : Am.Rest (bo :: (r.lay 8).own) H (H2.set bo (.map 26 (es.modify j fun e => { e with key := keyAddr a, val := r'.val ((F a).length + 1) }) ck)) := r2.trans (Rest.set (O := bo :: (r.lay 8).own) (by simp)) (Gets.refl _ _)
    have own2 : ∀ i ∈ (r'.lay 8).own, i ∈ (r.lay 8).own ∨ H.length ≤ i := fun i hi => (a5 i hi).imp id fun h => by simpa using h
    refine ⟨r.val (F a).length, r'.val ((F a).length + 1), x.born, _, H2, _, _, _, _, e1, a1, e3, ⟨List.getElem?_set_self hlt2, w.new, w.fO.modify hf (r', (F a).length + 1), fun y hy => ?_, fun y ry n hy => ?_, fun y y' ry ry2 n n2 hne hy hy' => ?_⟩, ⟨bo :: (r.lay 8).own, r3, fun i hi => ?_⟩, fun i _ hi => List.getElem?_set_ne (by omega), fun i o hi hno => ?_⟩
    · by_cases hya : y = a
      · simp [hya] at hy
      · simp only [hya, if_false] at hy ⊢; exact w.none_ y hy
    · by_cases hya : y = a
      · subst hya
        simp only [if_true, Option.some.injEq, Prod.mk.injEq] at hy ⊢
        obtain ⟨rfl, rfl⟩ := hy
        refine ⟨by simp, by simp, ?_, a3, fun i hi => ?_⟩
        · refine a2.rest (Rest.set (O := [bo]) (by simp)) fun i hi => ?_
          rcases own2 i hi with h | h
          · exact hnb i h
          · simp; omega
        · rcases own2 i hi with h | h
          · exact q5 i h
          · omega
      · simp only [hya, if_false] at hy ⊢
        obtain ⟨p1, p2, p3, p4, p5⟩ := w.some_ y ry n hy
        exact ⟨p1, p2, p3.rest r3 fun i hi => by
          rw [List.mem_cons, not_or]
          exact ⟨row_ne_map p3 w.map i hi, fun h => w.apart y a ry r n _ hya hy ho i hi h⟩, p4, p5⟩
    · by_cases hya : y = a
      · subst hya
        have hy'a : ¬ y' = y := fun e => hne e.symm
        simp only [if_true, Option.some.injEq, Prod.mk.injEq, hy'a, if_false] at hy hy'
        obtain ⟨rfl, rfl⟩ := hy
        intro i hi hi2
        rcases own2 i hi with h1 | h1
        · exact w.apart y y' r ry2 _ n2 hne ho hy' i h1 hi2
        · obtain ⟨_, _, p3, _, _⟩ := w.some_ y' ry2 n2 hy'
          have := p3.below i hi2
          omega
      · simp only [hya, if_false] at hy
        by_cases hya2 : y' = a
        · subst hya2
          simp only [if_true, Option.some.injEq, Prod.mk.injEq] at hy'
          obtain ⟨rfl, rfl⟩ := hy'
          intro i hi hi2
          rcases own2 i hi2 with h1 | h1
          · exact w.apart y y' ry r n _ hne hy ho i hi h1
          · obtain ⟨_, _, p3, _, _⟩ := w.some_ y ry n hy
            have := p3.below i hi
            omega
        · simp only [hya2, if_false] at hy'
          exact w.apart y y' ry ry2 n n2 hne hy hy'
    · rcases List.mem_cons.1 hi with rfl | hi
      · exact w.new
      · exact q5 i hi
    · rw [List.getElem?_set_ne (fun e => by subst e; rw [w.map] at hi; cases hi; exact hno _ _ _ rfl)]; exact hi
end Go.Proofs

set_option linter.unusedSimpArgs false
set_option linter.unusedVariables false
set_option maxRecDepth 100000
/- accounts that are told -/
namespace Go.Proofs
open Go Go.Am
theorem OwnAt.ne_out {H : AH} {base bo : Nat} {es : Array MapEntry} {ck : Nat} {O : Addr20 → Option (Row × Nat)} {F : Addr20 → List Slt} (w : OwnAt H base bo es ck O F) {q : Nat} {l : List Addr20} (hq : H[q]? = some (outO encAddr 20 l)) : bo ∉ [q] ∧ ∀ a x n, O a = some (x, n) → ∀ i ∈ (x.lay 8).own, i ∉ [q] := by
  refine ⟨fun h => ?_, fun a x n h i hi hiq => ?_⟩
  · simp at h
    subst h
    rw [w.map] at hq
    cases l <;> simp [outO] at hq
  · simp at hiq
    subst hiq
    obtain ⟨_, _, q3, _, _⟩ := w.some_ a x n h
    cases x with
    | none => simp [Row.lay, Lay.own] at hi
    | some p =>
      obtain ⟨b, c, cap⟩ := p
      simp [Row.lay, Lay.own] at hi
      subst hi
      have := q3.get (b := i) (o := .cells c 8 true) (by simp [Row.lay])
      rw [hq] at this
      cases l <;> simp [outO] at this
/-- an account's slots, read -/
theorem OwnAt.read {H : AH} {base bo : Nat} {es : Array MapEntry} {ck : Nat} {O : Addr20 → Option (Row × Nat)} {F : Addr20 → List Slt} (w : OwnAt H base bo es ck O F) (a : Addr20) : ∃ (y : Option Addr) (n cap : Nat) (O2 : List Nat), lookK false (.slice none 0 0) (.agg (encAddr a).toArray) es.toList = .slice y n cap ∧ RowAt encSlt 8 H (.slice y n cap) O2 (F a) ∧ (∀ i ∈ O2, base ≤ i) ∧ alen Try.prog H 31 (.slice y n cap) = some (.int .i64 ((F a).length : Nat)) := by
  have hl := w.fO.look false (none, 0) a
  have e0 : encRow (none, 0) = .slice none 0 0 := rfl
  rw [e0] at hl
  unfold keyAddr at hl
  cases ho : O a with
  | none =>
    rw [ho] at hl
    have hF := w.none_ a ho
    refine ⟨none, 0, 0, [], hl, ?_, by simp, ?_⟩
    · rw [hF]; exact .nil
    · rw [hF]; exact alen_eq' Try.slc31
  | some p =>
    obtain ⟨r, n⟩ := p
    rw [ho] at hl
    obtain ⟨rfl, h2, h3, h4, h5⟩ := w.some_ a r n ho
    have hr := Row.rowAt h3 h4
    have hsl : ∃ y n cap, encRow (r, (F a).length) = .slice y n cap := by
      cases r with
      | none => exact ⟨_, _, _, rfl⟩
      | some p => exact ⟨_, _, _, rfl⟩
    obtain ⟨y, n, cap, he⟩ := hsl
    have he' : r.val (F a).length = .slice y n cap := he
    simp only [Option.getD_some, Option.isSome_some] at hl
    rw [he] at hl
    rw [he'] at hr
    refine ⟨y, n, cap, _, hl, hr, h5, ?_⟩
    exact (rdS_row (P := Try.prog) (T := 31) (Te := 65) Try.slc31 Try.tyc65 length_encSlt hr).len _ (Agr.refl _ _)
set_option maxHeartbeats 8000000 in
theorem entries_calls {H : AH} {I : WI} {S : WS} (w : WA H I S) {N : Nat} (hN : N < 2 ^ 28) (sm : S.Small N) :
    ACalls Try.prog 11 #[.pointer (some ⟨I.b, 0, none⟩)] H (fun v h' => ∃ O xs, EntsAt h' H.length v O xs ∧ IsEnts S (xs.map (·.1)) ∧ Am.Rest [] H h') := by
  have hb := at_old w.box
  unfold WI.cells at hb
  have szS : I.slots.es.size < 2 ^ 28 := by
    obtain ⟨ks, h1, h2⟩ := sm.slots
    have := w.slots.size_le h2
    omega
  have szA : I.all.es.size < 2 ^ 28 := by
    obtain ⟨ks, h1, h2⟩ := sm.all
    have := w.all.size_le h2
    omega
  have nb : ∀ i, H.length ≤ i → i ∉ I.own := fun i hi hm => by
    have := w.holds.below i (by rw [WI.own_lay]; exact hm)
    omega
  have hsl := (List.getElem?_eq_some_iff.1 w.hSlots).1
  have hal := (List.getElem?_eq_some_iff.1 w.hAll).1
  have hGP : hasBody Try.prog 57 = true := by kernel_rfl
  have inh : ∃ v h', ∃ O xs, EntsAt h' H.length v O xs ∧ IsEnts S (xs.map (·.1)) ∧ Am.Rest [] H h' := by
    obtain ⟨lA, a1, a2⟩ := w.all.keyList fun x y h => keyAddr_inj x y h
    obtain ⟨lS, s1, s2⟩ := w.slots.keyList fun x y h => keyPlc_inj x y h
    obtain ⟨L, i1, i2⟩ := isEnts_exist a2 s2
    obtain ⟨h, v, O, xs, e1, e2, e3⟩ := EntsAt.exist H L (by omega)
    exact ⟨v, h, O, xs, e1, by rw [e2]; exact i1, e3⟩
  refine ACalls.of_ay Try.func11 rfl Try.ntmps11 inh ?_; simp only [List.length_cons, List.length_nil, Nat.reduceAdd, Nat.reduceSub, List.replicate_succ, List.replicate_zero, List.cons_append, List.nil_append]
  simp (implicitDefEqProofs := false) (maxSteps := 2000000) only [go_sem, Nat.reduceAdd, Nat.reduceSub, Nat.reduceMul, Nat.reduceLT, Nat.reduceLeDiff, Nat.reduceEqDiff, Nat.reduceBEq, Nat.reduceBNe, Nat.reducePow, Int.reduceBEq, Int.reduceBNe, Int.reduceEq, Int.reduceLT, Int.reduceLE, Int.reduceNeg, Int.reduceToNat, Int.reduceMul, Int.reduceAdd, Int.reduceSub, Int.reducePow, Int.reduceFDiv, reduceCtorEq, reduceIte, hb]
  refine astep_call (keysP_calls I.slots.b _ (by simp; omega)) ?_
  simp (implicitDefEqProofs := false) (maxSteps := 2000000) only [go_sem, Nat.reduceAdd, Nat.reduceSub, Nat.reduceMul, Nat.reduceLT, Nat.reduceLeDiff, Nat.reduceEqDiff, Nat.reduceBEq, Nat.reduceBNe, Nat.reducePow, Int.reduceBEq, Int.reduceBNe, Int.reduceEq, Int.reduceLT, Int.reduceLE, Int.reduceNeg, Int.reduceToNat, Int.reduceMul, Int.reduceAdd, Int.reduceSub, Int.reducePow, Int.reduceFDiv, reduceCtorEq, reduceIte]
  refine astep_calls (sortedP_calls (b := I.slots.b) (bx := H.length + 1) (es := I.slots.es) (clock := I.slots.ck) _ hGP (by simp) (at_old w.hSlots _) (by omega) w.slots.keys w.slots.ok.apart (keysP_it w.slots.ok w.slots.keys)) ?_
  rintro v1 h1 ⟨L, hv1, hL, hLp, hr1⟩
  simp (implicitDefEqProofs := false) (maxSteps := 2000000) only [go_sem, Nat.reduceAdd, Nat.reduceSub, Nat.reduceMul, Nat.reduceLT, Nat.reduceLeDiff, Nat.reduceEqDiff, Nat.reduceBEq, Nat.reduceBNe, Nat.reducePow, Int.reduceBEq, Int.reduceBNe, Int.reduceEq, Int.reduceLT, Int.reduceLE, Int.reduceNeg, Int.reduceToNat, Int.reduceMul, Int.reduceAdd, Int.reduceSub, Int.reducePow, Int.reduceFDiv, reduceCtorEq, reduceIte, hv1]
  have rH1 : Am.Rest [] H h1 := (Rest.app (O := [])).trans hr1 (Gets.refl _ _)
  have hm1 : h1[H.length]? = some (.map 26 #[] 0) := hr1.same _ _ (by simp) rfl (by simp)
  have hLl : L.length < 2 ^ 28 := by have := hLp.length_eq; simp at this; omega
  refine AWP.loopI (ι := Nat × AH × Array MapEntry × Nat × (Addr20 → Option (Row × Nat))) (fun i => L.length - i.1) (fun i => [.pointer (some ⟨I.b, 0, none⟩), junk, junk, .map (some H.length), junk, junk, junk, junk, junk, junk, junk, junk, junk, junk, junk, junk, junk, junk, slV encPlc (Sl.app L), .int .i64 ((L.length : Nat) : Int), .int .i64 ((i.1 : Nat) : Int), junk, junk, junk, junk, junk, junk, junk, junk, junk, junk, junk, junk, junk, junk, junk, junk, junk, junk, junk, junk, junk, junk, junk, junk, junk, junk, junk, junk, junk, junk, junk, junk, junk, junk, junk, junk, junk, junk, junk, junk, junk, junk, junk, junk, junk, junk, junk, junk, junk, junk, junk, junk, junk, junk, junk, junk, junk, junk, junk, junk, junk, junk, junk, junk, junk, junk, junk, junk, junk, junk, junk, junk, junk, junk, junk, junk, junk]) (fun i => i.2.1)
    (fun i => i.1 ≤ L.length ∧ Am.Rest [] H i.2.1 ∧ OwnAt i.2.1 H.length H.length i.2.2.1 i.2.2.2.1 i.2.2.2.2 (ownF S (L.take i.1)))
    (0, h1, #[], 0, fun _ => none) ⟨Nat.zero_le _, rH1, ⟨hm1, Nat.le_refl _, MFun.empty keyTyAddr keyedAddr keyAddr_inj, fun _ _ => rfl, fun a r n h => by simp at h, fun a a' r r' n n' _ h => by simp at h⟩⟩ (KeepsJ.ease ?_) ?_
  · repeat (first | exact .nil | refine .keep _ ?_ | refine .junk _ ?_)
  rintro ⟨i, h, es, ck, O⟩ ⟨hi, hr, ow⟩
  simp only at hi hr ow ⊢
  by_cases hlt : i < L.length
  · have hlt' : ((i : Nat) : Int) < ((L.length : Nat) : Int) := by omega
    have hge : (0 : Int) ≤ ((i : Nat) : Int) := by omega
    have hw1 : IntKind.i64.wrap ((i : Int) + 1) = ((i + 1 : Nat) : Int) := by rw [wrap_i64_of ((i : Int) + 1) (by omega) (by omega), ofNat_succ']
    have hbx := hr.same _ _ w.box rfl (by simp)
    have hsm := hr.same _ _ w.hSlots rfl (by simp)
    have hbx1 := at_old hbx
    have hsm1 := at_old hsm
    have hls := lookSlot L[i] w.slots
    have etk : L.take (i + 1) = L.take i ++ [L[i]] := by rw [List.take_add_one, List.getElem?_eq_getElem hlt]; rfl
    unfold WI.cells at hbx1
    obtain ⟨z, hz⟩ : ∃ z, z = (S.slots L[i]).getD zeroW := ⟨_, rfl⟩
    rw [← hz] at hls
    have hld := loadF_all length_encPlc (by omega) hlt
    have hz0 : (Value.agg #[.int .u64 0, .int .u64 0, .int .u64 0, .int .u64 0]) = .agg (encWord zeroW).toArray := by kernel_rfl
    by_cases hzz : z = zeroW
    · simp (implicitDefEqProofs := false) (maxSteps := 2000000) only [go_sem, Nat.reduceAdd, Nat.reduceSub, Nat.reduceMul, Nat.reduceLT, Nat.reduceLeDiff, Nat.reduceEqDiff, Nat.reduceBEq, Nat.reduceBNe, Nat.reducePow, Int.reduceBEq, Int.reduceBNe, Int.reduceEq, Int.reduceLT, Int.reduceLE, Int.reduceNeg, Int.reduceToNat, Int.reduceMul, Int.reduceAdd, Int.reduceSub, Int.reducePow, Int.reduceFDiv, reduceCtorEq, reduceIte, hlt', hge, hbx1, hsm1, hls, size_zeros, hzz, hw1, hld]
      refine ⟨by kernel_rfl, by kernel_rfl, ?_⟩
      simp (implicitDefEqProofs := false) (maxSteps := 2000000) only [go_sem, Nat.reduceAdd, Nat.reduceSub, Nat.reduceMul, Nat.reduceLT, Nat.reduceLeDiff, Nat.reduceEqDiff, Nat.reduceBEq, Nat.reduceBNe, Nat.reducePow, Int.reduceBEq, Int.reduceBNe, Int.reduceEq, Int.reduceLT, Int.reduceLE, Int.reduceNeg, Int.reduceToNat, Int.reduceMul, Int.reduceAdd, Int.reduceSub, Int.reducePow, Int.reduceFDiv, reduceCtorEq, reduceIte, hz0, hw1]
      refine ⟨(i + 1, _, es, ck, O), by simp only; omega, ⟨by simp only; omega, hr.trans (Rest.app (O := [])) (Gets.refl _ _), ?_⟩, KeepsJ.ease ?_⟩
      · simp only
        rw [etk, ownF_none (slotOf_none (by rw [← hz]; exact hzz))]
        exact ow.app
      · repeat (first | exact .nil | refine .keep _ ?_ | refine .junk _ ?_)
    · have hso : slotOf S L[i] = some ⟨L[i].key, z⟩ := by rw [hz] at hzz; rw [slotOf_some hzz, ← hz]
      have hlen := ownF_length S (L.take i) L[i].addr
      rw [List.length_take] at hlen
      obtain ⟨v0, v1', bn, H1, H2, H3, es', ck', O', e1, e2, e3, ow', ⟨Q, rQ, hQ⟩, _, hold⟩ := (ow.app (t := [.cells (encPlc L[i]).toArray 0 true, .cells (encWord z).toArray 0 true, .cells (encSlt ⟨L[i].key, z⟩).toArray 8 true])).more (by have := hr.len; simp; omega) L[i].addr ⟨L[i].key, z⟩ (by omega)
      have hlit : H1[h.length + 2]? = some (.cells (encSlt ⟨L[i].key, z⟩).toArray 8 true) := hold _ _ (by simp) (by simp)
      unfold keyAddr at e1
      have hbs : ∀ zc : Array Value, blit (zeros zc 8) 0 (encSlt ⟨L[i].key, z⟩) = (encSlt ⟨L[i].key, z⟩).toArray := fun zc => blit_list (by rw [length_encSlt, size_zeros])
      simp (implicitDefEqProofs := false) (maxSteps := 2000000) only [go_sem, Nat.reduceAdd, Nat.reduceSub, Nat.reduceMul, Nat.reduceLT, Nat.reduceLeDiff, Nat.reduceEqDiff, Nat.reduceBEq, Nat.reduceBNe, Nat.reducePow, Int.reduceBEq, Int.reduceBNe, Int.reduceEq, Int.reduceLT, Int.reduceLE, Int.reduceNeg, Int.reduceToNat, Int.reduceMul, Int.reduceAdd, Int.reduceSub, Int.reducePow, Int.reduceFDiv, reduceCtorEq, reduceIte, hlt', hge, hbx1, hsm1, hls, size_zeros, hzz, hw1, hld]
      refine ⟨by kernel_rfl, by kernel_rfl, ?_⟩
      simp (implicitDefEqProofs := false) (maxSteps := 2000000) only [go_sem, Nat.reduceAdd, Nat.reduceSub, Nat.reduceMul, Nat.reduceLT, Nat.reduceLeDiff, Nat.reduceEqDiff, Nat.reduceBEq, Nat.reduceBNe, Nat.reducePow, Int.reduceBEq, Int.reduceBNe, Int.reduceEq, Int.reduceLT, Int.reduceLE, Int.reduceNeg, Int.reduceToNat, Int.reduceMul, Int.reduceAdd, Int.reduceSub, Int.reducePow, Int.reduceFDiv, reduceCtorEq, reduceIte, hz0, hw1, hzz, e1, e2, e3, hlit, size_zeros, hbs]
      have rH3 : Am.Rest [] H H3 := ((hr.trans (Rest.app (O := [])) (Gets.refl _ _)).trans rQ (Gets.far fun i hi => .inr (hQ i hi))).cut (O' := []) (by simp)
      refine ⟨(i + 1, H3, es', ck', O'), by simp only; omega, ⟨by simp only; omega, rH3, ?_⟩, KeepsJ.ease ?_⟩
      · simp only
        rw [etk, ownF_some hso]
        exact ow'
      · repeat (first | exact .nil | refine .keep _ ?_ | refine .junk _ ?_)
  · have hlt' : ¬ ((i : Nat) : Int) < ((L.length : Nat) : Int) := by omega
    rw [List.take_of_length_le (show L.length ≤ i by omega)] at ow
    have hbx := hr.same _ _ w.box rfl (by simp)
    have ham := hr.same _ _ w.hAll rfl (by simp)
    unfold WI.cells at hbx
    have hGA : hasBody Try.prog 60 = true := by kernel_rfl
    have hGO : hasBody Try.prog 61 = true := by kernel_rfl
    have hal' : I.all.b < h.length := (List.getElem?_eq_some_iff.1 ham).1
    simp (implicitDefEqProofs := false) (maxSteps := 2000000) only [go_sem, Nat.reduceAdd, Nat.reduceSub, Nat.reduceMul, Nat.reduceLT, Nat.reduceLeDiff, Nat.reduceEqDiff, Nat.reduceBEq, Nat.reduceBNe, Nat.reducePow, Int.reduceBEq, Int.reduceBNe, Int.reduceEq, Int.reduceLT, Int.reduceLE, Int.reduceNeg, Int.reduceToNat, Int.reduceMul, Int.reduceAdd, Int.reduceSub, Int.reducePow, Int.reduceFDiv, reduceCtorEq, reduceIte, hlt', hbx]
    refine astep_call (keysA_calls I.all.b h hal') ?_
    simp (implicitDefEqProofs := false) (maxSteps := 2000000) only [go_sem, Nat.reduceAdd, Nat.reduceSub, Nat.reduceMul, Nat.reduceLT, Nat.reduceLeDiff, Nat.reduceEqDiff, Nat.reduceBEq, Nat.reduceBNe, Nat.reducePow, Int.reduceBEq, Int.reduceBNe, Int.reduceEq, Int.reduceLT, Int.reduceLE, Int.reduceNeg, Int.reduceToNat, Int.reduceMul, Int.reduceAdd, Int.reduceSub, Int.reducePow, Int.reduceFDiv, reduceCtorEq, reduceIte]
    refine astep_calls (collectA_calls (h := h ++ [.cells #[.map (some I.all.b)] 0 true]) (b := I.all.b) (bx := h.length) (es := I.all.es) (clock := I.all.ck) _ hGA (by simp) (at_old ham _) (by omega) w.all.keys (keysA_it w.all.ok w.all.keys)) ?_
    rintro v2 h2 ⟨q2, l2, hv2, hq2, hp2, hr2, hn2⟩
    have ow2 := (ow.app (t := [.cells #[.map (some I.all.b)] 0 true])).rest hr2 (by simp) (fun _ _ _ _ _ _ => by simp)
    have hbo2 : H.length < h2.length := (List.getElem?_eq_some_iff.1 ow2.map).1
    simp (implicitDefEqProofs := false) (maxSteps := 2000000) only [go_sem, Nat.reduceAdd, Nat.reduceSub, Nat.reduceMul, Nat.reduceLT, Nat.reduceLeDiff, Nat.reduceEqDiff, Nat.reduceBEq, Nat.reduceBNe, Nat.reducePow, Int.reduceBEq, Int.reduceBNe, Int.reduceEq, Int.reduceLT, Int.reduceLE, Int.reduceNeg, Int.reduceToNat, Int.reduceMul, Int.reduceAdd, Int.reduceSub, Int.reducePow, Int.reduceFDiv, reduceCtorEq, reduceIte, hv2]
    refine astep_call (keysO_calls H.length h2 hbo2) ?_
    simp (implicitDefEqProofs := false) (maxSteps := 2000000) only [go_sem, Nat.reduceAdd, Nat.reduceSub, Nat.reduceMul, Nat.reduceLT, Nat.reduceLeDiff, Nat.reduceEqDiff, Nat.reduceBEq, Nat.reduceBNe, Nat.reducePow, Int.reduceBEq, Int.reduceBNe, Int.reduceEq, Int.reduceLT, Int.reduceLE, Int.reduceNeg, Int.reduceToNat, Int.reduceMul, Int.reduceAdd, Int.reduceSub, Int.reducePow, Int.reduceFDiv, reduceCtorEq, reduceIte]
    have hOF : ∀ x, O x ≠ none ↔ ownF S L x ≠ [] := fun x => by
      cases hx : O x with
      | none => simp [ow.none_ x hx]
      | some p =>
        obtain ⟨r, n⟩ := p
        simp [(ow.some_ x r n hx).2.1]
    have szO : es.size ≤ L.length := by
      have := ow.fO.size_le (ks := L.map (·.addr)) fun x hx => by
        obtain ⟨s, hs⟩ := List.exists_mem_of_ne_nil _ ((hOF x).1 hx)
        exact List.mem_map.2 ⟨_, (mem_ownF.1 hs).1, rfl⟩
      simpa using this
    have hl2 : l2.length = I.all.es.size := by have := hp2.length_eq; simpa using this
    refine astep_calls (appendSeqA_calls (h := h2 ++ [.cells #[.map (some H.length)] 0 true]) (b := H.length) (bx := h2.length) (es := es) (clock := ck) _ hGO (by simp) (at_old ow2.map _) (by omega) ow2.fO.keys (at_old hq2 _) (keysO_it ow2.fO.ok ow2.fO.keys)) ?_
    rintro v3 h3 ⟨q3, l3, hv3, hq3, hp3, hr3, hn3⟩
    have hql3 : q3 < h3.length := (List.getElem?_eq_some_iff.1 hq3).1
    obtain ⟨hO, hT⟩ := swo_rank addrN (fun x y => addrN_inj)
    have hGC : hasBody Try.prog 41 = true := by kernel_rfl
    have hl3 : l3.length = es.size := by have := hp3.length_eq; simpa using this
    have hsort := ACalls.sortO Try.sortA laidOk Try.isAgg26 Try.sizeOf26 length_encAddr plain_encAddr (fun x y : Addr20 => sgn (addrN x) (addrN y)) hO hT hGC scompare_calls hq3 (by simp; omega)
    change ACalls Try.prog 40 _ _ _ at hsort
    obtain ⟨M, hM1, hM2, hM3⟩ : ∃ M, M = ((l2 ++ l3).mergeSort fun x y => !(Go.Proofs.ltOf fun x y : Addr20 => sgn (addrN x) (addrN y)) y x) ∧ M.Perm (l2 ++ l3) ∧ M.Pairwise fun x y => addrN x ≤ addrN y := ⟨_, rfl, sorted_le.1, sorted_le.2⟩
    rw [← hM1] at hsort
    have hov : outV q3 (l2 ++ l3) = outV q3 M := by
      have h1 := hM2.length_eq
      generalize l2 ++ l3 = l23 at h1
      cases M <;> cases l23 <;> simp_all [outV]
    simp (implicitDefEqProofs := false) (maxSteps := 2000000) only [go_sem, Nat.reduceAdd, Nat.reduceSub, Nat.reduceMul, Nat.reduceLT, Nat.reduceLeDiff, Nat.reduceEqDiff, Nat.reduceBEq, Nat.reduceBNe, Nat.reducePow, Int.reduceBEq, Int.reduceBNe, Int.reduceEq, Int.reduceLT, Int.reduceLE, Int.reduceNeg, Int.reduceToNat, Int.reduceMul, Int.reduceAdd, Int.reduceSub, Int.reducePow, Int.reduceFDiv, reduceCtorEq, reduceIte, hv3]
    refine astep_call hsort ?_
    simp (implicitDefEqProofs := false) (maxSteps := 2000000) only [go_sem, Nat.reduceAdd, Nat.reduceSub, Nat.reduceMul, Nat.reduceLT, Nat.reduceLeDiff, Nat.reduceEqDiff, Nat.reduceBEq, Nat.reduceBNe, Nat.reducePow, Int.reduceBEq, Int.reduceBNe, Int.reduceEq, Int.reduceLT, Int.reduceLE, Int.reduceNeg, Int.reduceToNat, Int.reduceMul, Int.reduceAdd, Int.reduceSub, Int.reducePow, Int.reduceFDiv, reduceCtorEq, reduceIte, hov]
    refine astep_calls (compact_calls (l := M) (List.getElem?_set_self hql3) hM3 (by have := hM2.length_eq; simp at this; omega)) ?_
    rintro v4 h4 ⟨D, OD, hrow, hD, hDm, hr4, hOD⟩
    have r34 : Am.Rest [q3] h3 h4 := (Rest.set (O := [q3]) (by simp)).trans hr4 (Gets.refl _ _)
    have hq3n : H.length ≤ q3 := by
      have := hr.len; have := hr2.len; simp at *; omega
    have n2 := (ow2.app (t := [.cells #[.map (some H.length)] 0 true])).ne_out (at_old hq2 _)
    have ow3 := (ow2.app (t := [.cells #[.map (some H.length)] 0 true])).rest hr3 n2.1 n2.2
    have n3 := ow3.ne_out hq3
    have ow4 := ow3.rest r34 n3.1 n3.2
    have rH2 : Am.Rest [] H h2 := (hr.trans (Rest.app (O := [])) (Gets.refl _ _)).trans hr2 (Gets.refl _ _)
    have hq2n : H.length ≤ q2 := by have := hr.len; simp at hn2; omega
    have rH4 : Am.Rest [] H h4 := (((rH2.trans (Rest.app (O := [])) (Gets.refl _ _)).trans hr3 (Gets.far (by simp; exact hq2n))).trans (O' := [q3]) r34 (Gets.far (by simp; exact hq3n))).cut (O' := []) (by simp)
    have rd := rdS_row (P := Try.prog) (T := 87) (Te := 26) Try.slc87 Try.tyc26 length_encAddr hrow
    have hDl : D.length < 2 ^ 30 := by
      have h1 := nodup_len (nodup_rising hD) fun x hx => (hDm x).1 hx
      have h2 := hM2.length_eq
      simp only [List.length_append] at h2
      omega
    simp (implicitDefEqProofs := false) (maxSteps := 2000000) only [go_sem, Nat.reduceAdd, Nat.reduceSub, Nat.reduceMul, Nat.reduceLT, Nat.reduceLeDiff, Nat.reduceEqDiff, Nat.reduceBEq, Nat.reduceBNe, Nat.reducePow, Int.reduceBEq, Int.reduceBNe, Int.reduceEq, Int.reduceLT, Int.reduceLE, Int.reduceNeg, Int.reduceToNat, Int.reduceMul, Int.reduceAdd, Int.reduceSub, Int.reducePow, Int.reduceFDiv, reduceCtorEq, reduceIte, rd.len _ (Agr.refl _ _)]
    refine AWP.loopI (ι := Nat × AH × List EV × Value × List Nat) (fun i => D.length - i.1) (fun i => [.pointer (some ⟨I.b, 0, none⟩), junk, junk, .map (some H.length), junk, junk, junk, junk, i.2.2.2.1, junk, junk, junk, junk, junk, junk, junk, junk, junk, junk, junk, junk, junk, junk, junk, junk, junk, junk, junk, junk, junk, junk, junk, junk, junk, junk, junk, junk, junk, junk, junk, junk, junk, junk, junk, junk, junk, junk, junk, junk, junk, junk, junk, junk, junk, junk, junk, junk, junk, v4, .int .i64 ((D.length : Nat) : Int), .int .i64 ((i.1 : Nat) : Int), junk, junk, junk, junk, junk, junk, junk, junk, junk, junk, junk, junk, junk, junk, junk, junk, junk, junk, junk, junk, junk, junk, junk, junk, junk, junk, junk, junk, junk, junk, junk, junk, junk, junk, junk, junk, junk]) (fun i => i.2.1)
      (fun i => i.1 ≤ D.length ∧ Am.Rest [] H i.2.1 ∧ OwnAt i.2.1 H.length H.length es ck O (ownF S L) ∧ RowAt encAddr 20 i.2.1 v4 OD D ∧ EntsAt i.2.1 H.length i.2.2.2.1 i.2.2.2.2 i.2.2.1 ∧ i.2.2.1.map (·.1) = (D.take i.1).filterMap (entOf S (ownF S L)))
      (0, h4, [], .slice none 0 0, []) ⟨Nat.zero_le _, rH4, ow4, hrow, ⟨.nil, by simp, by simp, by simp⟩, rfl⟩ (KeepsJ.ease ?_) ?_
    · repeat (first | exact .nil | refine .keep _ ?_ | refine .junk _ ?_)
    rintro ⟨i, k, xs, vo, Oo⟩ ⟨hi, hk, owk, hrk, ek, hxs⟩
    simp only at hi hk owk hrk ek hxs ⊢
    by_cases hlt : i < D.length
    · have hlt' : ((i : Nat) : Int) < ((D.length : Nat) : Int) := by omega
      have hw1 : IntKind.i64.wrap ((i : Int) + 1) = ((i + 1 : Nat) : Int) := by rw [wrap_i64_of ((i : Int) + 1) (by omega) (by omega), ofNat_succ']
      obtain ⟨p, hp1, hp2⟩ := (rdS_row (P := Try.prog) (T := 87) (Te := 26) Try.slc87 Try.tyc26 length_encAddr hrk).at_ k (Agr.refl _ _) i hlt
      have hbk := at_old (hk.same _ _ w.box rfl (by simp))
      have hak := at_old (hk.same _ _ w.hAll rfl (by simp))
      unfold WI.cells at hbk
      have hla := lookAcc D[i] w.all
      obtain ⟨x, hx⟩ : ∃ x, x = (S.all D[i]).getD Acc.zero := ⟨_, rfl⟩
      rw [← hx] at hla
      have owk2 := owk.app (t := [.cells (encAddr D[i]).toArray 0 true, .cells (encAcc x).toArray 0 true])
      obtain ⟨ry, rn, rc, O2, hrv, hrr, hO2, hrl⟩ := owk2.read D[i]
      have hmk := at_old owk.map
      have etk : D.take (i + 1) = D.take i ++ [D[i]] := by rw [List.take_add_one, List.getElem?_eq_getElem hlt]; rfl
      simp (implicitDefEqProofs := false) (maxSteps := 2000000) only [go_sem, Nat.reduceAdd, Nat.reduceSub, Nat.reduceMul, Nat.reduceLT, Nat.reduceLeDiff, Nat.reduceEqDiff, Nat.reduceBEq, Nat.reduceBNe, Nat.reducePow, Int.reduceBEq, Int.reduceBNe, Int.reduceEq, Int.reduceLT, Int.reduceLE, Int.reduceNeg, Int.reduceToNat, Int.reduceMul, Int.reduceAdd, Int.reduceSub, Int.reducePow, Int.reduceFDiv, reduceCtorEq, reduceIte, hlt', hp1, hp2, hbk, hak, hla, length_encAddr, size_zeros]
      refine ⟨by kernel_rfl, by kernel_rfl, ?_⟩
      refine astep_call (there_calls x _) ?_
      have hth : thereB x = x.there := rfl
      by_cases hno : x.there = false ∧ ownF S L D[i] = []
      · obtain ⟨ht, hF⟩ := hno
        have hl0 : ((((ownF S L D[i]).length : Nat) : Int) == 0) = true := by rw [hF]; rfl
        simp (implicitDefEqProofs := false) (maxSteps := 2000000) only [go_sem, Nat.reduceAdd, Nat.reduceSub, Nat.reduceMul, Nat.reduceLT, Nat.reduceLeDiff, Nat.reduceEqDiff, Nat.reduceBEq, Nat.reduceBNe, Nat.reducePow, Int.reduceBEq, Int.reduceBNe, Int.reduceEq, Int.reduceLT, Int.reduceLE, Int.reduceNeg, Int.reduceToNat, Int.reduceMul, Int.reduceAdd, Int.reduceSub, Int.reducePow, Int.reduceFDiv, reduceCtorEq, reduceIte, hth, ht, hmk, hrv, hrl, hl0, hw1]
        refine ⟨(i + 1, _, xs, vo, Oo), by simp only; omega, ⟨hlt, hk.trans (Rest.app (O := [])) (Gets.refl _ _), owk2, hrk.rest (Rest.app (O := [])) (by simp), ek.rest (Rest.app (O := [])) (by simp), ?_⟩, KeepsJ.ease ?_⟩
        · simp only
          have hnone : entOf S (ownF S L) D[i] = none := by
            unfold entOf
            rw [← hx, if_neg]
            rintro (h | h)
            · rw [ht] at h; cases h
            · exact h hF
          rw [etk, List.filterMap_append, ← hxs]
          simp [hnone]
        · repeat (first | exact .nil | refine .keep _ ?_ | refine .junk _ ?_)
      · have hent : entOf S (ownF S L) D[i] = some ⟨D[i], x.nonce, x.bal, Sl.full x.code, Sl.app (ownF S L D[i])⟩ := by
          unfold entOf
          rw [← hx, if_pos]
          cases ht : x.there with
          | true => exact .inl rfl
          | false => exact .inr fun hF => hno ⟨ht, hF⟩
        have heb := fun vc vs : Value => entV_build ⟨D[i], x.nonce, x.bal, Sl.full x.code, Sl.app (ownF S L D[i])⟩ vc vs
        have hez : ∀ (vc vs : Value) (zc : Array Value), blit (zeros zc 27) 0 (encEntV ⟨D[i], x.nonce, x.bal, Sl.full x.code, Sl.app (ownF S L D[i])⟩ vc vs) = (encEntV ⟨D[i], x.nonce, x.bal, Sl.full x.code, Sl.app (ownF S L D[i])⟩ vc vs).toArray := fun vc vs zc => blit_list (by rw [length_encEntV, size_zeros])
        have hxl : xs.length < 2 ^ 30 := by
          have h1 := congrArg List.length hxs
          have h2 := List.length_filterMap_le (entOf S (ownF S L)) (D.take i)
          simp only [List.length_map, List.length_take] at h1 h2
          omega
        obtain ⟨v', H', O', happ, eN, rN⟩ := ek.more (by exact hk.len) hxl ⟨D[i], x.nonce, x.bal, Sl.full x.code, Sl.app (ownF S L D[i])⟩ _ hrr hO2 (vc := .slice (some ⟨k.length + 2, 0, none⟩) x.code.length x.code.length) rfl
        simp only [List.cons_append, List.nil_append, full_l] at happ
        have fin : (i + 1 ≤ D.length ∧ Am.Rest [] H H' ∧ OwnAt H' H.length H.length es ck O (ownF S L) ∧ RowAt encAddr 20 H' v4 OD D ∧ EntsAt H' H.length v' O' (xs ++ [(⟨D[i], x.nonce, x.bal, Sl.full x.code, Sl.app (ownF S L D[i])⟩, .slice (some ⟨k.length + 2, 0, none⟩) x.code.length x.code.length, .slice ry rn rc)]) ∧ (xs ++ [((⟨D[i], x.nonce, x.bal, Sl.full x.code, Sl.app (ownF S L D[i])⟩ : Ent), Value.slice (some ⟨k.length + 2, 0, none⟩) x.code.length x.code.length, Value.slice ry rn rc)]).map (·.1) = (D.take (i + 1)).filterMap (entOf S (ownF S L))) := by
          refine ⟨hlt, (hk.trans rN (Gets.far fun j hj => .inr (ek.new j hj))).cut (O' := []) (by simp), ?_, hrk.rest rN (RowAt.ne hrk ek.row (by decide)), eN, ?_⟩
          · refine owk.rest rN (RowAt.ne_map ek.row owk.map) fun a r n ha => ?_
            obtain ⟨_, _, q3, q4, _⟩ := owk.some_ a r n ha
            exact RowAt.ne (Row.rowAt q3 q4) ek.row (by decide)
          · rw [etk, List.filterMap_append, ← hxs, List.map_append]
            simp [hent]
        have hcv := aconv_sb (P := Try.prog) (h := k ++ [.cells (encAddr D[i]).toArray 0 true, .cells (encAcc x).toArray 0 true]) (l := x.code) Try.underlying9 Try.underlying30 Try.underlying5
        simp only [List.length_append, List.length_cons, List.length_nil, Nat.reduceAdd, List.append_assoc, List.cons_append, List.nil_append] at hcv
        cases ht : x.there with
        | true =>
          simp (implicitDefEqProofs := false) (maxSteps := 2000000) only [go_sem, Nat.reduceAdd, Nat.reduceSub, Nat.reduceMul, Nat.reduceLT, Nat.reduceLeDiff, Nat.reduceEqDiff, Nat.reduceBEq, Nat.reduceBNe, Nat.reducePow, Int.reduceBEq, Int.reduceBNe, Int.reduceEq, Int.reduceLT, Int.reduceLE, Int.reduceNeg, Int.reduceToNat, Int.reduceMul, Int.reduceAdd, Int.reduceSub, Int.reducePow, Int.reduceFDiv, reduceCtorEq, reduceIte, hth, ht, hmk, hrv, hrl, hw1, hcv, acct_build, size_blit, Array.size_setIfInBounds, Array.size_append, List.size_toArray, List.length_cons, List.length_nil, size_acct, heb, size_entV, size_zeros, hez, Try.underlying30, happ]
          refine ⟨by kernel_rfl, by kernel_rfl, .inr ⟨rfl, by decide⟩, ?_⟩
          refine ⟨(i + 1, H', _, v', O'), by simp only; omega, fin, KeepsJ.ease ?_⟩
          repeat (first | exact .nil | refine .keep _ ?_ | refine .junk _ ?_)
        | false =>
          have hl0 : ((((ownF S L D[i]).length : Nat) : Int) == 0) = false := by
            have : ownF S L D[i] ≠ [] := fun hF => hno ⟨ht, hF⟩
            cases h : ownF S L D[i] with
            | nil => exact absurd h this
            | cons y l => simp; omega
          simp (implicitDefEqProofs := false) (maxSteps := 2000000) only [go_sem, Nat.reduceAdd, Nat.reduceSub, Nat.reduceMul, Nat.reduceLT, Nat.reduceLeDiff, Nat.reduceEqDiff, Nat.reduceBEq, Nat.reduceBNe, Nat.reducePow, Int.reduceBEq, Int.reduceBNe, Int.reduceEq, Int.reduceLT, Int.reduceLE, Int.reduceNeg, Int.reduceToNat, Int.reduceMul, Int.reduceAdd, Int.reduceSub, Int.reducePow, Int.reduceFDiv, reduceCtorEq, reduceIte, hth, ht, hmk, hrv, hrl, hl0, hw1, hcv, acct_build, size_blit, Array.size_setIfInBounds, Array.size_append, List.size_toArray, List.length_cons, List.length_nil, size_acct, heb, size_entV, size_zeros, hez, Try.underlying30, happ]
          refine ⟨by kernel_rfl, by kernel_rfl, .inr ⟨rfl, by decide⟩, ?_⟩
          refine ⟨(i + 1, H', _, v', O'), by simp only; omega, fin, KeepsJ.ease ?_⟩
          repeat (first | exact .nil | refine .keep _ ?_ | refine .junk _ ?_)
    · have hlt' : ¬ ((i : Nat) : Int) < ((D.length : Nat) : Int) := by omega
      rw [List.take_of_length_le (show D.length ≤ i by omega)] at hxs
      have hLm : ∀ p, p ∈ L ↔ S.slots p ≠ none := fun p => by
        rw [← w.slots.keys_iff, ← hLp.mem_iff, List.mem_map]
        constructor
        · intro h; exact ⟨p, h, rfl⟩
        · rintro ⟨y, h1, h2⟩; rw [← keyPlc_inj _ _ h2]; exact h1
      have h2m : ∀ a, a ∈ l2 ↔ S.all a ≠ none := fun a => by
        rw [← w.all.keys_iff, ← hp2.mem_iff, List.mem_map]
        constructor
        · intro h; exact ⟨a, h, rfl⟩
        · rintro ⟨y, h1, h2⟩; rw [← keyAddr_inj _ _ h2]; exact h1
      have h3m : ∀ a, a ∈ l3 ↔ ownF S L a ≠ [] := fun a => by
        rw [← hOF, ← ow.fO.keys_iff, ← hp3.mem_iff, List.mem_map]
        constructor
        · intro h; exact ⟨a, h, rfl⟩
        · rintro ⟨y, h1, h2⟩; rw [← keyAddr_inj _ _ h2]; exact h1
      have hEs := isEnts_of hL hLm hD fun a => by rw [hDm, hM2.mem_iff, List.mem_append, h2m, h3m]
      rw [← hxs] at hEs
      simp (implicitDefEqProofs := false) (maxSteps := 2000000) only [go_sem, Nat.reduceAdd, Nat.reduceSub, Nat.reduceMul, Nat.reduceLT, Nat.reduceLeDiff, Nat.reduceEqDiff, Nat.reduceBEq, Nat.reduceBNe, Nat.reducePow, Int.reduceBEq, Int.reduceBNe, Int.reduceEq, Int.reduceLT, Int.reduceLE, Int.reduceNeg, Int.reduceToNat, Int.reduceMul, Int.reduceAdd, Int.reduceSub, Int.reducePow, Int.reduceFDiv, reduceCtorEq, reduceIte, hlt']
      exact ⟨vo, vo, k, rfl, .refl, Oo, xs, ek, hEs, hk⟩
end Go.Proofs

set_option linter.unusedSimpArgs false
set_option linter.unusedVariables false
set_option maxRecDepth 100000
/- accounts: the journal from its end, whatever row it lies in -/
namespace Go.Proofs
open Go Go.Am
set_option maxHeartbeats 4000000 in
theorem backwardV_calls (x : Option Addr) (len cap : Nat) (h : AH) (hv : VRen id (h.length + 1) (.slice x len cap) (.slice x len cap)) : ACalls Try.prog 51 #[.slice x len cap] h (fun u h' => u = .func (.func 70) #[] #[.pointer (some ⟨h.length, 0, none⟩)] ∧ h' = h ++ [.cells #[.slice x len cap] 0 true]) := by
  refine ACalls.of_ay Try.func51 rfl Try.ntmps51 ⟨_, _, rfl, rfl⟩ ?_; simp only [List.length_cons, List.length_nil, Nat.reduceAdd, Nat.reduceSub, List.replicate_succ, List.replicate_zero, List.cons_append, List.nil_append]
  simp (implicitDefEqProofs := false) (maxSteps := 2000000) only [go_sem, Nat.reduceAdd, Nat.reduceSub, Nat.reduceMul, Nat.reduceLT, Nat.reduceLeDiff, Nat.reduceEqDiff, Nat.reduceBEq, Nat.reduceBNe, Nat.reducePow, Int.reduceBEq, Int.reduceBNe, Int.reduceEq, Int.reduceLT, Int.reduceLE, Int.reduceNeg, Int.reduceToNat, Int.reduceMul, Int.reduceAdd, Int.reduceSub, Int.reducePow, Int.reduceFDiv, reduceCtorEq, reduceIte]
  have ho : ORen id (h.length + 1) (.cells #[.slice x len cap] 0 true) (.cells #[.slice x len cap] 0 true) := ⟨_, rfl, rfl, fun i => by
    cases i with
    | zero => exact hv
    | succ i => simp [Array.getD]; exact .junk _⟩
  exact apost_keep (v := .func (.func 70) #[] #[.pointer (some ⟨h.length, 0, none⟩)]) (o := .cells #[.slice x len cap] 0 true) rfl (.func _ _ _ _ _ rfl rfl (fun i => by simp; exact .junk _) rfl (fun i => by
    cases i with
    | zero => exact .ptr _ _ _ (by simp) rfl
    | succ i => simp; exact .junk _)) ho ⟨rfl, rfl⟩ _ rfl
set_option maxHeartbeats 4000000 in
theorem backwardX_it {h : AH} {bx len cap : Nat} {x : Option Addr} (hlen : len < 2 ^ 62) (parts : Nat → Stp)
    (Y : YRel) (I : Nat → AH → Prop) (h0 : I len h)
    (hat : ∀ k H, I k H → H[bx]? = some (.cells #[.slice x len cap] 0 true) ∧ (0 < len → ∃ b o c, x = some ⟨b, o, none⟩ ∧ H[b]? = some (.cells c 36 true) ∧ ∀ i, i < len → o + i * 36 + 36 ≤ c.size ∧ c.extract (o + i * 36) (o + i * 36 + 36) = (encStp (parts i)).toArray))
    (hY : ∀ k H (K : Option Code → AH → Prop), k < len → I (k + 1) H → (∀ H', I k H' → K none H') → Y #[.int .i64 ((k : Nat) : Int), .agg (encStp (parts k)).toArray] H K) :
    AIter Try.prog 70 #[.pointer (some ⟨bx, 0, none⟩)] h Y (fun H st => st = none ∧ I 0 H) := by
  refine AIter.of_ayI Try.func70 rfl rfl Try.ntmps70 (by decide) ?_
  simp only [List.length_cons, List.length_nil, Nat.reduceAdd, Nat.reduceSub, List.replicate_succ, List.replicate_zero, List.cons_append, List.nil_append]
  have hbx := (hat _ _ h0).1
  have hw0 : IntKind.i64.wrap ((len : Int) - 1) = (len : Int) - 1 := wrap_i64_of _ (by omega) (by omega)
  simp (implicitDefEqProofs := false) (maxSteps := 2000000) only [go_sem, Nat.reduceAdd, Nat.reduceSub, Nat.reduceMul, Nat.reduceLT, Nat.reduceLeDiff, Nat.reduceEqDiff, Nat.reduceBEq, Nat.reduceBNe, Nat.reducePow, Int.reduceBEq, Int.reduceBNe, Int.reduceEq, Int.reduceLT, Int.reduceLE, Int.reduceNeg, Int.reduceToNat, Int.reduceMul, Int.reduceAdd, Int.reduceSub, Int.reducePow, Int.reduceFDiv, reduceCtorEq, reduceIte, hbx, hw0]
  refine AWPI.loopI (fun k : Nat => k) (fun k => [junk, .pointer (some ⟨bx, 0, none⟩), junk, .int .i64 ((k : Int) - 1), junk, junk, junk, junk, junk, junk, junk, junk, junk, junk, junk, junk, junk, junk, junk]) [0] (fun k H => k ≤ len ∧ I k H) len ⟨Nat.le_refl _, h0⟩ (fun t ht => ht) ?_ ?_
  · repeat (first | exact .nil | refine .same _ ?_ | refine .junk _ ?_)
  rintro k H ⟨hk, hI⟩
  obtain ⟨hx, hc⟩ := hat _ _ hI
  cases k with
  | zero =>
    simp (implicitDefEqProofs := false) (maxSteps := 2000000) only [go_sem, Nat.reduceAdd, Nat.reduceSub, Nat.reduceMul, Nat.reduceLT, Nat.reduceLeDiff, Nat.reduceEqDiff, Nat.reduceBEq, Nat.reduceBNe, Nat.reducePow, Int.reduceBEq, Int.reduceBNe, Int.reduceEq, Int.reduceLT, Int.reduceLE, Int.reduceNeg, Int.reduceToNat, Int.reduceMul, Int.reduceAdd, Int.reduceSub, Int.reducePow, Int.reduceFDiv, reduceCtorEq, reduceIte, hx]
    exact hI
  | succ j =>
    obtain ⟨b, o, c, rfl, hc, hp⟩ := hc (by omega)
    have e : (((j + 1 : Nat) : Int) - 1) = ((j : Nat) : Int) := by omega
    obtain ⟨p1, p2⟩ := hp j (by omega)
    have hge : (0 : Int) ≤ ((j : Nat) : Int) := by omega
    have hlt : ((j : Nat) : Int) < ((len : Nat) : Int) := by omega
    rw [e]
    have hw : IntKind.i64.wrap (((j : Nat) : Int) - 1) = ((j : Nat) : Int) - 1 := wrap_i64_of _ (by omega) (by omega)
    simp (implicitDefEqProofs := false) (maxSteps := 2000000) only [go_sem, Nat.reduceAdd, Nat.reduceSub, Nat.reduceMul, Nat.reduceLT, Nat.reduceLeDiff, Nat.reduceEqDiff, Nat.reduceBEq, Nat.reduceBNe, Nat.reducePow, Int.reduceBEq, Int.reduceBNe, Int.reduceEq, Int.reduceLT, Int.reduceLE, Int.reduceNeg, Int.reduceToNat, Int.reduceMul, Int.reduceAdd, Int.reduceSub, Int.reducePow, Int.reduceFDiv, reduceCtorEq, reduceIte, hx, hc, p1, p2, hge, hlt]
    refine hY j _ _ (by omega) hI ?_
    intro H' hI'
    simp (implicitDefEqProofs := false) (maxSteps := 2000000) only [go_sem, Nat.reduceAdd, Nat.reduceSub, Nat.reduceMul, Nat.reduceLT, Nat.reduceLeDiff, Nat.reduceEqDiff, Nat.reduceBEq, Nat.reduceBNe, Nat.reducePow, Int.reduceBEq, Int.reduceBNe, Int.reduceEq, Int.reduceLT, Int.reduceLE, Int.reduceNeg, Int.reduceToNat, Int.reduceMul, Int.reduceAdd, Int.reduceSub, Int.reducePow, Int.reduceFDiv, reduceCtorEq, reduceIte, hw]
    refine ⟨j, by omega, ⟨by omega, hI'⟩, by simp, _, rfl, by repeat (first | exact .nil | refine .same _ ?_ | refine .junk _ ?_)⟩
end Go.Proofs

set_option linter.unusedSimpArgs false
set_option linter.unusedVariables false
set_option maxRecDepth 100000
/- accounts: back to a mark -/
namespace Go.Proofs
open Go Go.Am
/-- taking steps back leaves a world -/
theorem undos_inh : ∀ (l : List Stp) {H : AH} {I : WI} {S : WS}, WA H I S → fitsL S.logs.length l → ∃ h' I', WOkJ Try.prog 26 78 H I h' I' (S.undos l)
  | [], H, I, S, w, _ => ⟨_, _, WOk.refl w, rfl⟩
  | s :: l, H, I, S, w, hf => by
    obtain ⟨_, h1, _, I1, ok1, e1⟩ := (undo_calls s w hf.head).inh
    obtain ⟨h2, I2, ok2, e2⟩ := undos_inh l ok1.at_ hf.tail
    exact ⟨h2, I2, ok1.trans ok2, e2.trans e1⟩
theorem _root_.Go.Am.WOk.back {P : Program} {tA tP : TypeId} {H H1 : AH} {I I1 : WI} {S : WS} {k m : Nat} (ok : WOk P tA tP H I H1 I1 (S.undos (S.journal.drop m).reverse)) (hm : m ≤ S.journal.length) (hk : k ≤ S.marks.length) :
    WOk P tA tP H I (H1.set I1.b (.cells (I1.cells (S.back k m)) 0 true)) I1 (S.back k m) := by
  obtain ⟨j1, j2, j3, j4⟩ := undos_journal (S.journal.drop m).reverse S
  have c1 := ok.at_.cutJournal (n := m) (by rw [j1]; exact hm)
  have c2 := c1.at_.cutMarks (n := k) (by show k ≤ (WS.marks _).length; rw [j2]; exact hk)
  have fin := ok.trans (c1.trans c2)
  rw [List.set_set] at fin
  simp only [j1, j2] at fin
  exact fin
/-- a mark, where it lies -/
theorem mark_at {P : Program} {tA tP : TypeId} {H : AH} {I : WI} {S : WS} (w : WAt P tA tP H I S) {k m : Nat} (hk : k < S.marks.length) (hm : S.marks[k].2 = (m : Nat)) :
    ∃ b c cap, I.marks.val S.marks.length = .slice (some ⟨b, 0, none⟩) S.marks.length cap ∧ H[b]? = some (.cells c 2 true) ∧ c[k * 2 + 1]? = some (.int .i64 (m : Nat)) := by
  have hl : Holds H (I.marks.lay 2) := w.holds.sub (by
    unfold WI.lay
    refine List.Sublist.cons _ (List.Sublist.cons _ (List.Sublist.cons _ (List.Sublist.cons _ (List.Sublist.cons _ (List.Sublist.cons _ (List.Sublist.cons _ ?_))))))
    exact (List.sublist_append_right _ _).trans (List.sublist_append_right _ _))
  have hi := w.marks
  cases hr : I.marks with
  | none =>
    rw [hr] at hi
    have : S.marks = [] := hi
    rw [this] at hk; simp at hk
  | some p =>
    obtain ⟨b, c, cap⟩ := p
    rw [hr] at hi hl
    obtain ⟨h1, h2, h3⟩ := hi
    refine ⟨b, c, cap, rfl, hl.get (by simp [Row.lay]), ?_⟩
    have e := flat_getElem? (enc := encMk) (n := 2) length_encMk hk (off := 1) (by omega)
    rw [← h3, Array.getElem?_extract] at e
    have hlt : 0 + (k * 2 + 1) < c.size := by rw [h1]; omega
    rw [if_pos (by omega), Nat.zero_add] at e
    rw [e]
    simp [encMk, hm]
set_option maxHeartbeats 4000000 in
theorem back_calls {H : AH} {I : WI} {S : WS} (w : WA H I S) (hs : S.marks.length < 2 ^ 62) (hjl : S.journal.length < 2 ^ 62) (n : Int) {k m : Nat} (hk : k < S.marks.length) (hn : idxM n S.marks = (k : Nat)) (hm : S.marks[k].2 = (m : Nat)) (hle : m ≤ S.journal.length) (hf : fitsL S.logs.length (S.journal.drop m).reverse) :
    ACalls Try.prog 29 #[.pointer (some ⟨I.b, 0, none⟩), .int .i64 n] H (fun v h' => v = undef ∧ ∃ I', WOk Try.prog 26 78 H I h' I' (S.back k m)) := by
  have hb := at_old w.box
  unfold WI.cells at hb
  have hG : hasBody Try.prog 50 = true := by kernel_rfl
  have hG2 : hasBody Try.prog 70 = true := by kernel_rfl
  have inh : ∃ (v : Value) (h' : AH), v = undef ∧ ∃ I', WOk Try.prog 26 78 H I h' I' (S.back k m) := by
    obtain ⟨h1, I1, ok1, _⟩ := undos_inh (S.journal.drop m).reverse w hf
    exact ⟨_, _, rfl, _, ok1.back hle (Nat.le_of_lt hk)⟩
  refine ACalls.of_aw Try.func29 rfl Try.ntmps29 inh ?_; simp only [List.length_cons, List.length_nil, Nat.reduceAdd, Nat.reduceSub, List.replicate_succ, List.replicate_zero, List.cons_append, List.nil_append]
  refine AWP.seqA ?_
  simp (implicitDefEqProofs := false) (maxSteps := 2000000) only [go_sem, Nat.reduceAdd, Nat.reduceSub, Nat.reduceMul, Nat.reduceLT, Nat.reduceLeDiff, Nat.reduceEqDiff, Nat.reduceBEq, Nat.reduceBNe, Nat.reducePow, Int.reduceBEq, Int.reduceBNe, Int.reduceEq, Int.reduceLT, Int.reduceLE, Int.reduceNeg, Int.reduceToNat, Int.reduceMul, Int.reduceAdd, Int.reduceSub, Int.reducePow, Int.reduceFDiv, reduceCtorEq, reduceIte, hb]
  have w1 := w.app (t := [.cells #[.pointer (some ⟨I.b, 0, none⟩)] 0 true] ++ [.cells #[.int .i64 n] 0 true])
  have hl : Holds (H ++ ([.cells #[.pointer (some ⟨I.b, 0, none⟩)] 0 true] ++ [.cells #[.int .i64 n] 0 true])) (I.marks.lay 2) := w1.holds.sub (by
    unfold WI.lay
    refine List.Sublist.cons _ (List.Sublist.cons _ (List.Sublist.cons _ (List.Sublist.cons _ (List.Sublist.cons _ (List.Sublist.cons _ (List.Sublist.cons _ ?_))))))
    exact (List.sublist_append_right _ _).trans (List.sublist_append_right _ _))
  have c := indexR_calls hl w.marks hs n (q := H.length + 1) (by simp)
  simp only [List.cons_append, List.nil_append] at c
  refine AWP.seqA ?_
  simp (implicitDefEqProofs := false) (maxSteps := 2000000) only [go_sem, Nat.reduceAdd, Nat.reduceSub, Nat.reduceMul, Nat.reduceLT, Nat.reduceLeDiff, Nat.reduceEqDiff, Nat.reduceBEq, Nat.reduceBNe, Nat.reducePow, Int.reduceBEq, Int.reduceBNe, Int.reduceEq, Int.reduceLT, Int.reduceLE, Int.reduceNeg, Int.reduceToNat, Int.reduceMul, Int.reduceAdd, Int.reduceSub, Int.reducePow, Int.reduceFDiv, reduceCtorEq, reduceIte, hb]
  refine astep_call c ?_
  have hge : ¬ ((k : Nat) : Int) < 0 := by omega
  obtain ⟨bm, cm, capm, hmv, hmb, hmc⟩ := mark_at w hk hm
  have hmb1 := at_old hmb
  have hlj : Holds H (I.journal.lay 36) := w.holds.sub (by
    unfold WI.lay
    refine List.Sublist.cons _ (List.Sublist.cons _ (List.Sublist.cons _ (List.Sublist.cons _ (List.Sublist.cons _ (List.Sublist.cons _ (List.Sublist.cons _ ?_))))))
    exact (List.sublist_append_left _ _).trans (List.sublist_append_right _ _))
  have hsl := slice_back (P := Try.prog) (t := 70) Try.slc70 (by decide) (hlj.app (t := [.cells #[.pointer (some ⟨I.b, 0, none⟩)] 0 true, .cells #[.int .i64 n] 0 true])) w.journal hle
  have hkl : ((k : Nat) : Int) < ((S.marks.length : Nat) : Int) := by omega
  have hk0 : (0 : Int) ≤ ((k : Nat) : Int) := by omega
  simp (implicitDefEqProofs := false) (maxSteps := 2000000) only [go_sem, Nat.reduceAdd, Nat.reduceSub, Nat.reduceMul, Nat.reduceLT, Nat.reduceLeDiff, Nat.reduceEqDiff, Nat.reduceBEq, Nat.reduceBNe, Nat.reducePow, Int.reduceBEq, Int.reduceBNe, Int.reduceEq, Int.reduceLT, Int.reduceLE, Int.reduceNeg, Int.reduceToNat, Int.reduceMul, Int.reduceAdd, Int.reduceSub, Int.reducePow, Int.reduceFDiv, reduceCtorEq, reduceIte, hn, hb, hge, hmv, hmb1, hmc, hkl, hk0, hsl]
  refine AWP.seqA ?_
  simp (implicitDefEqProofs := false) (maxSteps := 2000000) only [go_sem, Nat.reduceAdd, Nat.reduceSub, Nat.reduceMul, Nat.reduceLT, Nat.reduceLeDiff, Nat.reduceEqDiff, Nat.reduceBEq, Nat.reduceBNe, Nat.reducePow, Int.reduceBEq, Int.reduceBNe, Int.reduceEq, Int.reduceLT, Int.reduceLE, Int.reduceNeg, Int.reduceToNat, Int.reduceMul, Int.reduceAdd, Int.reduceSub, Int.reducePow, Int.reduceFDiv, reduceCtorEq, reduceIte, hn, hb, hge, hmv, hmb1, hmc, hkl, hk0, hsl]
  refine AWP.seqA ?_
  simp (implicitDefEqProofs := false) (maxSteps := 2000000) only [go_sem, Nat.reduceAdd, Nat.reduceSub, Nat.reduceMul, Nat.reduceLT, Nat.reduceLeDiff, Nat.reduceEqDiff, Nat.reduceBEq, Nat.reduceBNe, Nat.reducePow, Int.reduceBEq, Int.reduceBNe, Int.reduceEq, Int.reduceLT, Int.reduceLE, Int.reduceNeg, Int.reduceToNat, Int.reduceMul, Int.reduceAdd, Int.reduceSub, Int.reducePow, Int.reduceFDiv, reduceCtorEq, reduceIte, hn, hb, hge, hmv, hmb1, hmc, hkl, hk0, hsl]
  refine AWP.seqA ?_
  simp (implicitDefEqProofs := false) (maxSteps := 2000000) only [go_sem, Nat.reduceAdd, Nat.reduceSub, Nat.reduceMul, Nat.reduceLT, Nat.reduceLeDiff, Nat.reduceEqDiff, Nat.reduceBEq, Nat.reduceBNe, Nat.reducePow, Int.reduceBEq, Int.reduceBNe, Int.reduceEq, Int.reduceLT, Int.reduceLE, Int.reduceNeg, Int.reduceToNat, Int.reduceMul, Int.reduceAdd, Int.reduceSub, Int.reducePow, Int.reduceFDiv, reduceCtorEq, reduceIte, hn, hb, hge, hmv, hmb1, hmc, hkl, hk0, hsl]
  have hvr : VRen id (List.length (H ++ [AObj.cells #[.pointer (some ⟨I.b, 0, none⟩)] 0 true, AObj.cells #[.int .i64 n] 0 true]) + 1) (.slice (I.journal.from 36 m) (S.journal.length - m) (I.journal.room m)) (.slice (I.journal.from 36 m) (S.journal.length - m) (I.journal.room m)) := by
    have hji := w.journal
    cases hj : I.journal with
    | none =>
      rw [hj] at hji
      have : S.journal = [] := hji
      rw [this]
      exact .plain _ rfl
    | some p =>
      obtain ⟨bj, cj, capj⟩ := p
      rw [hj] at hlj
      have := (List.getElem?_eq_some_iff.1 (hlj.get (b := bj) (o := .cells cj 36 true) (by simp [Row.lay]))).1
      exact .slice _ _ _ _ _ (by simp; omega) rfl
  refine astep_call (backwardV_calls _ _ _ _ hvr) ?_
  simp (implicitDefEqProofs := false) (maxSteps := 2000000) only [go_sem, Nat.reduceAdd, Nat.reduceSub, Nat.reduceMul, Nat.reduceLT, Nat.reduceLeDiff, Nat.reduceEqDiff, Nat.reduceBEq, Nat.reduceBNe, Nat.reducePow, Int.reduceBEq, Int.reduceBNe, Int.reduceEq, Int.reduceLT, Int.reduceLE, Int.reduceNeg, Int.reduceToNat, Int.reduceMul, Int.reduceAdd, Int.reduceSub, Int.reducePow, Int.reduceFDiv, reduceCtorEq, reduceIte]
  obtain ⟨H1, hH1⟩ : ∃ H1 : AH, H1 = H ++ [.cells #[.pointer (some ⟨I.b, 0, none⟩)] 0 true, .cells #[.int .i64 n] 0 true, .cells #[.slice (I.journal.from 36 m) (S.journal.length - m) (I.journal.room m)] 0 true] := ⟨_, rfl⟩
  rw [← hH1]
  have wH : WA H1 I S := by rw [hH1]; exact w.app
  have nb : ∀ i, H.length ≤ i → i ∉ I.own := fun i hi hm => by
    have := w.holds.below i (by rw [WI.own_lay]; exact hm)
    omega
  have gb0 : H1[H.length]? = some (.cells #[.pointer (some ⟨I.b, 0, none⟩)] 0 true) := by rw [hH1]; simp
  have gb2 : H1[H.length + 2]? = some (.cells #[.slice (I.journal.from 36 m) (S.journal.length - m) (I.journal.room m)] 0 true) := by rw [hH1]; simp
  have hll : (S.journal.drop m).length = S.journal.length - m := by simp
  refine AWP.rangeFunc (K := 70) (caps := #[.pointer (some ⟨H.length + 2, 0, none⟩)]) (by simp only [aeval_tmp, getD_lit, List.getD_cons_succ, List.getD_cons_zero]) hG2
    (backwardX_it (bx := H.length + 2) (len := S.journal.length - m) (cap := I.journal.room m) (x := I.journal.from 36 m) (by omega) (fun i => (S.journal.drop m).getD i Stp.zero) _ (fun k' H' => ∃ I', WOkJ Try.prog 26 78 H1 I H' I' (S.undos (((S.journal.drop m).reverse).take (S.journal.length - m - k')))) ?_ ?_ ?_) ?_
  · exact ⟨I, by rw [Nat.sub_self]; exact WOk.refl wH, rfl⟩
  · rintro k' H' ⟨I', ok, hJ⟩
    refine ⟨ok.rest.same _ _ gb2 rfl (nb _ (by omega)), fun hpos => ?_⟩
    have hJi := ok.at_.journal
    have hJl : Holds H' (I'.journal.lay 36) := ok.at_.holds.sub (by
      unfold WI.lay
      refine List.Sublist.cons _ (List.Sublist.cons _ (List.Sublist.cons _ (List.Sublist.cons _ (List.Sublist.cons _ (List.Sublist.cons _ (List.Sublist.cons _ ?_))))))
      exact (List.sublist_append_left _ _).trans (List.sublist_append_right _ _))
    have hji := w.journal
    rw [hJ] at hJl
    cases hj : I.journal with
    | none =>
      rw [hj] at hji
      have : S.journal = [] := hji
      rw [this] at hpos; simp at hpos
    | some p =>
      obtain ⟨bj, cj, capj⟩ := p
      rw [hj] at hJl hji
      obtain ⟨q1, q2, q3⟩ := hji
      refine ⟨bj, m * 36, cj, rfl, hJl.get (by simp [Row.lay]), fun i hi => ?_⟩
      have hmi : m + i < S.journal.length := by omega
      have e1 : m * 36 + i * 36 = (m + i) * 36 := by omega
      rw [e1]
      refine ⟨by omega, ?_⟩
      rw [part_cells length_encStp q3 hmi]
      congr 2
      rw [List.getD_eq_getElem?_getD, List.getElem?_drop, List.getElem?_eq_getElem hmi]; rfl
  · rintro k' H' K' hk' ⟨I', ok, hJ⟩ hK'
    refine roundY_of_ay rfl ?_
    rw [fold2]
    have hbx0 := at_old (ok.rest.same _ _ gb0 rfl (nb _ (by omega)))
    have ebI : I'.b = I.b := ok.b
    have hlr : (S.journal.drop m).reverse.length = S.journal.length - m := by simp
    have hlt' : S.journal.length - m - (k' + 1) < (S.journal.drop m).reverse.length := by omega
    have htk : (S.journal.drop m).reverse.take (S.journal.length - m - k') = (S.journal.drop m).reverse.take (S.journal.length - m - (k' + 1)) ++ [(S.journal.drop m).getD k' Stp.zero] := by
      rw [show S.journal.length - m - k' = (S.journal.length - m - (k' + 1)) + 1 by omega, List.take_add_one, List.getElem?_eq_getElem hlt', List.getElem_reverse]
      congr 1
      rw [List.getD_eq_getElem?_getD, List.getElem?_eq_getElem (by omega)]
      simp only [Option.toList_some, Option.getD_some, List.cons.injEq, and_true]
      congr 1
      omega
    have hfit : (S.undos ((S.journal.drop m).reverse.take (S.journal.length - m - (k' + 1)))).Fits ((S.journal.drop m).getD k' Stp.zero) := by
      refine fitsL.head (l := []) (fitsL.undos ?_)
      rw [← htk]
      refine fitsL.front (l2 := (S.journal.drop m).reverse.drop (S.journal.length - m - k')) ?_
      rw [List.take_append_drop]; exact hf
    generalize (S.journal.drop m).getD k' Stp.zero = s at htk hfit
    simp (implicitDefEqProofs := false) (maxSteps := 2000000) only [go_sem, Nat.reduceAdd, Nat.reduceSub, Nat.reduceMul, Nat.reduceLT, Nat.reduceLeDiff, Nat.reduceEqDiff, Nat.reduceBEq, Nat.reduceBNe, Nat.reducePow, Int.reduceBEq, Int.reduceBNe, Int.reduceEq, Int.reduceLT, Int.reduceLE, Int.reduceNeg, Int.reduceToNat, Int.reduceMul, Int.reduceAdd, Int.reduceSub, Int.reducePow, Int.reduceFDiv, reduceCtorEq, reduceIte, hbx0, size_zeros]
    have cu := fun t : AH => undo_calls s (ok.at_.app (t := t)) hfit
    rw [ebI] at cu
    refine astep_calls (cu _) ?_
    rintro v h' ⟨hv, I2, ok2, hJ2⟩
    simp (implicitDefEqProofs := false) (maxSteps := 2000000) only [go_sem, Nat.reduceAdd, Nat.reduceSub, Nat.reduceMul, Nat.reduceLT, Nat.reduceLeDiff, Nat.reduceEqDiff, Nat.reduceBEq, Nat.reduceBNe, Nat.reducePow, Int.reduceBEq, Int.reduceBNe, Int.reduceEq, Int.reduceLT, Int.reduceLE, Int.reduceNeg, Int.reduceToNat, Int.reduceMul, Int.reduceAdd, Int.reduceSub, Int.reducePow, Int.reduceFDiv, reduceCtorEq, reduceIte, hv]
    refine roundQ_normal (hK' _ ⟨I2, ?_, hJ2.trans hJ⟩)
    rw [htk, undos_append]
    exact ok.trans ok2.pre
  · rintro H' st ⟨rfl, I', ok, hJ⟩
    rw [Nat.sub_zero, List.take_of_length_le (by simp)] at ok
    obtain ⟨j1, j2, j3, j4⟩ := undos_journal (S.journal.drop m).reverse S
    have fin := ok.back hle (Nat.le_of_lt hk)
    have hbx0 := ok.rest.same _ _ gb0 rfl (nb _ (by omega))
    have ebI : I'.b = I.b := ok.b
    have hbw := ok.at_.box
    have hf1 := ok.at_.journalFront (t := 70) Try.slc70 (n := m) (by rw [j1]; exact hle)
    have hf2 := ok.at_.marksFront (t := 71) Try.slc71 (n := k) (by rw [j2]; exact Nat.le_of_lt hk)
    unfold WI.cells at hbw fin
    have l1 : (S.journal.take m).length = m := by simp; omega
    have l2 : (S.marks.take k).length = k := by simp; omega
    simp only [j1, j2, j3, ebI, WS.back, l1, l2] at hbw hf1 hf2 fin
    have hltb : I.b < H'.length := (List.getElem?_eq_some_iff.1 hbw).1
    have hIb : H.length ≠ I.b := fun e => nb H.length (Nat.le_refl _) (by rw [e]; simp [WI.own])
    have hset : ∀ o : AObj, (H'.set I.b o)[I.b]? = some o := fun o => List.getElem?_set_self hltb
    simp (implicitDefEqProofs := false) (maxSteps := 2000000) only [go_sem, Nat.reduceAdd, Nat.reduceSub, Nat.reduceMul, Nat.reduceLT, Nat.reduceLeDiff, Nat.reduceEqDiff, Nat.reduceBEq, Nat.reduceBNe, Nat.reducePow, Int.reduceBEq, Int.reduceBNe, Int.reduceEq, Int.reduceLT, Int.reduceLE, Int.reduceNeg, Int.reduceToNat, Int.reduceMul, Int.reduceAdd, Int.reduceSub, Int.reducePow, Int.reduceFDiv, reduceCtorEq, reduceIte]
    refine W.AWP.draw (T := ⟨[(51, (I.b, 8, 1))], [(37, [51]), (49, [51])]⟩) (by kernel_rfl) (by kernel_rfl) ?_
    simp (implicitDefEqProofs := false) (maxSteps := 2000000) only [go_sem, Nat.reduceAdd, Nat.reduceSub, Nat.reduceMul, Nat.reduceLT, Nat.reduceLeDiff, Nat.reduceEqDiff, Nat.reduceBEq, Nat.reduceBNe, Nat.reducePow, Int.reduceBEq, Int.reduceBNe, Int.reduceEq, Int.reduceLT, Int.reduceLE, Int.reduceNeg, Int.reduceToNat, Int.reduceMul, Int.reduceAdd, Int.reduceSub, Int.reducePow, Int.reduceFDiv, reduceCtorEq, reduceIte, hbx0, hbw, hf1, hf2, hset, List.set_set]
    refine ⟨fun r e => by subst e; exact ⟨_, _, Try.tyc37, by decide, .inl hIb⟩, fun r e => by subst e; exact ⟨rfl, _, Try.tyc70⟩, W.leaves_none rfl (by kernel_rfl), W.leaves_none rfl (by kernel_rfl), ?_⟩
    refine ⟨undef, undef, _, rfl, Eases.refl, rfl, I', ?_⟩
    rw [hH1] at fin
    have e : S.back k m = { S.undos (S.journal.drop m).reverse with journal := S.journal.take m, marks := S.marks.take k, next := S.next } := by unfold WS.back; simp only [j3]
    rw [e]
    exact fin.pre
end Go.Proofs

