import Derived.Test.YtihdilnanhjedaaAm55x
set_option linter.unusedSimpArgs false
set_option linter.unusedVariables false
/- more at the end of what has grown, opaque -/
namespace Go.Am
open Go Go.Proofs
theorem mkApp_outs {α : Type} {enc : α → List Value} {H : AH} {b m by_ : Nat} {g : Bool} {l l2 : List α} (hb : H[b]? = some (outO enc m l)) (hm : ∀ x, (enc x).length = m) (hbd : (2 * (l.length + l2.length) + 192) * by_ ≤ 2 ^ 48 ∧ l.length + l2.length < 2 ^ 62) :
    ∃ b' H', mkApp H (outV b l) (some (g, m, by_)) (some (l2.length, flatV enc l2)) = some (outV b' (l ++ l2), H') ∧ H'[b']? = some (outO enc m (l ++ l2)) ∧ (∀ i, i ≠ b → i < H.length → H'[i]? = H[i]?) ∧ H.length ≤ H'.length ∧ (b' = b ∨ b' = H.length) := by
  cases l2 with
  | nil =>
    refine ⟨b, H, ?_, by rw [List.append_nil]; exact hb, fun _ _ _ => rfl, Nat.le_refl _, .inl rfl⟩
    rw [List.append_nil]
    cases l with
    | nil => rfl
    | cons x l => simp [outV, mkApp]
  | cons y l2 =>
    refine ⟨H.length, _, by rw [mkApp_out hb hm (by simp) hbd, outV_ne (by simp), List.length_append], ?_, fun i hi hl => ?_, by simp, .inr rfl⟩
    · rw [List.getElem?_append_right (by simp)]
      simp only [List.length_set, Nat.sub_self, List.getElem?_cons_zero]
      rw [outO_ne (by simp), flatV_append]
    · rw [List.getElem?_append_left (by simpa using hl), List.getElem?_set_ne (fun e => hi e.symm)]
theorem ACalls.outs {P : Program} {F : FuncId} {α : Type} {enc : α → List Value} {m b : Nat} {l : List α} {h : AH} {R : Value → AH → Prop} (hb : h[b]? = some (outO enc m l)) (hm : ∀ x, (enc x).length = m) (hc : ACalls P F #[slV enc (Sl.app l)] (h.set b .dead) R) : ACalls P F #[outV b l] h R := by
  refine ACalls.freeze (args1 := #[slV enc (Sl.app l)]) HFz.set rfl (fun i => ?_) hc
  cases i with
  | zero => exact Rf.outV hb (List.getElem?_set_self (List.getElem?_eq_some_iff.1 hb).1) hm
  | succ i => simp; exact .same _
theorem ACalls.of_ayG {P : Program} {F : FuncId} {fn : Func} {c : Code} (hf : P.funcs[F]? = some fn) (hb : fn.body = some c) {n : Nat} (hn : fn.ntmps = n) {args : List Value} {h : AH} {R : Value → AH → Prop} (inh : ∃ v h', R v h')
    (ha : ay P h c (apost P h fn R) (args ++ List.replicate (n - args.length) undef).toArray (h ++ [.dead] ++ [.dead])) : ACalls P F args.toArray h R := by
  subst hn
  refine ACalls.of_awp hf hb inh (AWP.ease Eases.ghost (AWP.ease Eases.ghost (ay_sound c _ _ _ ?_)))
  have e : (args.toArray ++ Array.replicate (fn.ntmps - args.toArray.size) undef) = (args ++ List.replicate (fn.ntmps - args.length) undef).toArray := by
    simp
  rw [e]
  exact ha
theorem ACalls.of_awl {P : Program} {F : FuncId} {fn : Func} {c : Code} (hf : P.funcs[F]? = some fn) (hb : fn.body = some c) {n : Nat} (hn : fn.ntmps = n) {args : List Value} {h : AH} {R : Value → AH → Prop} (inh : ∃ v h', R v h')
    (ha : AWP P h c (apost P h fn R) (args ++ List.replicate (n - args.length) undef).toArray h) : ACalls P F args.toArray h R := by
  subst hn
  refine ACalls.of_awp hf hb inh ?_
  have e : (args.toArray ++ Array.replicate (fn.ntmps - args.toArray.size) undef) = (args ++ List.replicate (fn.ntmps - args.length) undef).toArray := by
    simp
  rw [e]
  exact ha
theorem AWP.seqA {P : Program} {h0 : AH} {x y : Code} {Q : Exit → Array Value → AH → Prop} {a : Array Value} {h : AH} (ha : ay P h0 x (thenA (AWP P h0 y Q) Q) a h) : AWP P h0 (.seq x y) Q a h := AWP.seq (ay_sound x _ _ _ ha)
theorem AWP.ofA {P : Program} {h0 : AH} {x : Code} {Q : Exit → Array Value → AH → Prop} {a : Array Value} {h : AH} (ha : ay P h0 x Q a h) : AWP P h0 x Q a h := ay_sound x _ _ _ ha
theorem KeepsF.easeK {P : Program} {h0 H : AH} {l l1 : List Value} (hk : keeps h0 H) (k : KeepsF H (dieNew h0 H) l l1) : Eases P h0 l.toArray H l1.toArray h0 := by
  obtain ⟨t, rfl⟩ : ∃ t, H = h0 ++ t := by
    refine ⟨H.drop h0.length, ?_⟩
    have e : H.take h0.length = h0 := by
      apply List.ext_getElem?
      intro i
      by_cases hi : i < h0.length
      · rw [List.getElem?_take_of_lt hi, hk.2 i hi]
      · rw [List.getElem?_eq_none (by simp; omega), List.getElem?_eq_none (by omega)]
    rw [← e]
    simp only [List.length_take, Nat.min_eq_left hk.1]
    rw [List.take_append_drop]
  exact k.ease
theorem mkApp_outX {h t : AH} {α : Type} {enc : α → List Value} {l : List α} {g : Bool} {k m by_ : Nat} {x : α} (hm : ∀ x, (enc x).length = m) (hbd : (2 * (l.length + 1) + 192) * by_ ≤ 2 ^ 48 ∧ l.length + 1 < 2 ^ 62) (hk : t[k]? = some (outO enc m l)) :
    mkApp (h ++ t) (outV (h.length + k) l) (some (g, m, by_)) (some (1, (enc x).toArray)) = some (outV (h.length + t.length) (l ++ [x]), h ++ (t.set k .dead ++ [outO enc m (l ++ [x])])) := by
  rw [mkApp_outK hm (by omega) hbd hk, outV_snoc, outO_snoc]
end Go.Am
