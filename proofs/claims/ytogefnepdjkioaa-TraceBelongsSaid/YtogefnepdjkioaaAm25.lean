import Derived.Test.YtogefnepdjkioaaAm24
import Derived.LoopN
set_option linter.unusedVariables false
set_option linter.unusedSimpArgs false
/- Loops of few rounds; the comparison of bytes. -/
namespace Go.Am
open Go

/-- a loop that goes round so often, or less -/
def aRounds (P : Program) (h0 : AH) (c : Code) (Q : Exit → Array Value → AH → Prop) : Nat → Array Value → AH → Prop
  | 0, _, _ => False
  | n + 1, a, h => ay P h0 c (thenA (aRounds P h0 c Q n) Q) a h

theorem AWP.rounds {P : Program} {h0 : AH} {c : Code} {Q : Exit → Array Value → AH → Prop} (n : Nat) {a : Array Value} {h : AH} (ha : aRounds P h0 c Q n a h) : AWP P h0 (.loop c) Q a h := by
  intro f0 w0 f a' w s0 g
  refine wp_loop_rounds n ?_
  induction n generalizing f a h a' w with
  | zero => exact ha.elim
  | succ n ih =>
    refine Go.wp_mono (ay_sound c _ _ _ ha f0 w0 f a' w s0 g) fun e a1 w1 hq => ?_
    cases e with
    | normal =>
      obtain ⟨f1, b, h1, hk, g1⟩ := hq
      exact ih hk f1 a1 w1 g1
    | exit id => exact hq
    | goto l => exact hq
    | ret => exact hq
    | panic c => exact hq
    | outgrown => exact hq

section
variable {P : Program} {h0 h : AH} {c : Code} {Q : Exit → Array Value → AH → Prop} {a : Array Value}
theorem rounds1 : aRounds P h0 c Q 1 a h = ay P h0 c (thenA (fun _ _ => False) Q) a h := rfl
theorem rounds2 : aRounds P h0 c Q 2 a h = ay P h0 c (thenA (aRounds P h0 c Q 1) Q) a h := rfl
theorem rounds3 : aRounds P h0 c Q 3 a h = ay P h0 c (thenA (aRounds P h0 c Q 2) Q) a h := rfl
end

/-! the comparison -/
def mkCmp (n o n2 o2 : Nat) : Option AObj → Option AObj → Option Value
  | some (.cells A _ _), some (.cells B _ _) =>
    if o + n ≤ A.size ∧ o2 + n2 ≤ B.size ∧ (A.extract o (o + n)).all isByte = true ∧ (B.extract o2 (o2 + n2)).all isByte = true then some (.int .i64 (cmpV (A.extract o (o + n)) (B.extract o2 (o2 + n2)))) else none
  | _, _ => none

theorem acompare_rows {h : AH} {b o n c b2 o2 n2 c2 : Nat} (hn : (n == 0) = false) (hn2 : (n2 == 0) = false) :
    acompare h (.slice (some ⟨b, o, none⟩) n c) (.slice (some ⟨b2, o2, none⟩) n2 c2) = mkCmp n o n2 o2 h[b]? h[b2]? := by
  have h1 : n ≠ 0 := by simpa using hn
  have h2 : n2 ≠ 0 := by simpa using hn2
  simp only [acompare, isSlice, and_self, if_true, asource, h1, h2, if_false, Nat.mul_one]
  generalize h[b]? = x
  generalize h[b2]? = y
  cases x with
  | none => rfl
  | some x =>
    cases x with
    | cells A es rw =>
      by_cases l1 : o + n ≤ A.size
      · cases y with
        | none => simp [mkCmp, l1]
        | some y =>
          cases y with
          | cells B es2 rw2 =>
            by_cases l2 : o2 + n2 ≤ B.size
            · simp only [mkCmp, l1, l2, if_true, true_and]
            · simp [mkCmp, l1, l2]
          | _ => simp [mkCmp, l1]
      · cases y with
        | none => simp [mkCmp, l1]
        | some y => cases y <;> simp [mkCmp, l1]
    | _ => rfl

def srcRow (n o m : Nat) : Option AObj → Option (Nat × Array Value)
  | some (.cells c _ _) => if o + n * m ≤ c.size then some (n, c.extract o (o + n * m)) else none
  | _ => none
theorem asource_row {h : AH} {b o n c m : Nat} (hn : (n == 0) = false) : asource h m (.slice (some ⟨b, o, none⟩) n c) = srcRow n o m h[b]? := by
  have h1 : n ≠ 0 := by simpa using hn
  simp only [asource, h1, if_false]
  generalize h[b]? = x
  cases x with
  | none => rfl
  | some x => cases x <;> rfl

theorem bytes_plain {A : Array Value} (h : A.all isByte = true) : A.all plain1 = true := by
  rw [Array.all_eq_true] at h ⊢
  intro i hi
  have := h i hi
  unfold isByte at this
  split at this
  · rename_i e; rw [e]; rfl
  · cases this
theorem fame_plain {A : Array Value} {s i : Int} (h : A.all isByte = true) : (fame A s i).all plain1 = true := by
  unfold fame
  rw [Array.all_append, bytes_plain h]; simp [plain1]

theorem fame_zblit {A c : Array Value} {s i : Int} (hA : A.size = 20) : blit (zeros c 22) 0 (fame A s i).toList = fame A s i := blit_all (by rw [fame_size hA]; simp [zeros])
theorem zeros_size22 {c : Array Value} : (zeros c 22).size = 22 := by simp [zeros]

/-- a slice over a new row of plain cells, which a temporary holds -/
theorem apost_row {P : Program} {h0 t : AH} {fn : Func} {R : Value → AH → Prop} {j k o len cap es : Nat} {c : Array Value} {rw : Bool} (hr : fn.results = #[.tmp j]) (l : List Value) (hl : l.getD j junk = .slice (some ⟨h0.length + k, o, none⟩) len cap)
    (ht : t[k]? = some (.cells c es rw)) (hp : c.all plain1 = true) (hR : R (.slice (some ⟨h0.length, o, none⟩) len cap) (h0 ++ [.cells c es rw])) : apost P h0 fn R .ret l.toArray (h0 ++ t) :=
  apost_slice (by rw [aresults_tmp hr, getD_lit, hl]) ht hp hR

/-- one plain result; nothing new -/
theorem apost_tmp0 {P : Program} {h0 : AH} {fn : Func} {R : Value → AH → Prop} {v : Value} {k : Nat} (hr : fn.results = #[.tmp k]) (hp : plainB v = true) (hR : R v h0) (l : List Value) (hl : l.getD k junk = v) : apost P h0 fn R .ret l.toArray h0 :=
  apost_plain (by rw [aresults_tmp hr, getD_lit, hl]) hp (keeps_refl _) hR

/-- one plain result that a cell holds -/
theorem apost_cell {P : Program} {h0 : AH} {fn : Func} {R : Value → AH → Prop} {v p : Value} {k : Nat} {ty : TypeId} (hr : fn.results = #[.cell k ty]) (hp : plainB v = true) (hR : R v h0) (l : List Value) (t : AH) (hl : l.getD k junk = p) (hv : aload P (h0 ++ t) ty p = some v) : apost P h0 fn R .ret l.toArray (h0 ++ t) :=
  apost_plain (by rw [aresults_cell hr, getD_lit, hl, hv]) hp (keeps_append _ _) hR

theorem cmpV_self (c : Array Value) : cmpV c c = 0 := by
  unfold cmpV Extern.BytealgCompare.cmp
  rw [List.find?_eq_none.2 (fun i _ => by simp)]
  simp
end Go.Am
