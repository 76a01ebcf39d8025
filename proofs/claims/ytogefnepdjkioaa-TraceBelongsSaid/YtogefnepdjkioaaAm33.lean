import Derived.Test.YtogefnepdjkioaaAm32
set_option linter.unusedVariables false
set_option linter.unusedSimpArgs false
/- Loops, by what they hold at their heads. -/
namespace Go.Am
open Go

theorem AWP.loopI {P : Program} {h0 : AH} {c : Code} {Q : Exit → Array Value → AH → Prop} {a : Array Value} {h : AH} {ι : Type} (M : ι → Nat) (Fr : ι → List Value) (Hp : ι → AH) (ok : ι → Prop) (i0 : ι) (hok : ok i0)
    (he : Eases P h0 a h (Fr i0).toArray (Hp i0))
    (round : ∀ i, ok i → ay P h0 c (thenA (fun a1 h1 => ∃ j, M j < M i ∧ ok j ∧ Eases P h0 a1 h1 (Fr j).toArray (Hp j)) Q) (Fr i).toArray (Hp i)) : AWP P h0 (.loop c) Q a h := by
  refine AWP.ease he (AWP.loopE (fun k a h => ∃ i, k = M i ∧ a = (Fr i).toArray ∧ h = Hp i ∧ ok i) (n := M i0) ⟨i0, rfl, rfl, rfl, hok⟩ ?_)
  rintro n a h ⟨i, rfl, rfl, rfl, hi⟩
  refine AWP.mono (ay_sound _ _ _ _ (round i hi)) fun e a1 h1 hq => ?_
  cases e with
  | normal =>
    obtain ⟨j, h2, h3, h4⟩ := hq
    exact ⟨M j, _, _, h2, h4, j, rfl, rfl, rfl, h3⟩
  | _ => exact hq

theorem Keeps.ease {P : Program} {h0 h : AH} {l l1 : List Value} (hle : h0.length ≤ h.length) (hobj : ∀ b o, h[b]? = some o → o.alive = true → (b < h0.length ∧ h0[b]? = some o) ∨ ORen id h.length o o) (hv : Keeps h.length l l1) : Eases P h0 l.toArray h l1.toArray h := by
  have := Eases.tail (P := P) (x := []) hle hobj hv
  simpa using this
/-- nothing new but what is forgotten of the frame -/
theorem Keeps.ease0 {P : Program} {h0 : AH} {l l1 : List Value} (hv : Keeps h0.length l l1) : Eases P h0 l.toArray h0 l1.toArray h0 :=
  hv.ease (Nat.le_refl _) fun b o hb _ => .inl ⟨(List.getElem?_eq_some_iff.1 hb).1, hb⟩
/-- blocks behind are dropped -/
theorem Keeps.ease1 {P : Program} {h0 x : AH} {l l1 : List Value} (hv : Keeps h0.length l l1) : Eases P h0 l.toArray (h0 ++ x) l1.toArray h0 :=
  Eases.tail (Nat.le_refl _) (fun b o hb _ => .inl ⟨(List.getElem?_eq_some_iff.1 hb).1, hb⟩) hv
end Go.Am
