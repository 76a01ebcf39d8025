import Derived.Test.YtchknbminoipiaaRep3
import Derived.Test.YtchknbminoipiaaRepK
set_option linter.unusedSimpArgs false
set_option linter.unusedVariables false
namespace Go.Proofs
open Go Go.Am

def encBo (b : Bool) : List Value := [.bool b]
theorem length_encBo (b : Bool) : (encBo b).length = 1 := rfl
theorem tree_encBo (b : Bool) : ∀ v ∈ encBo b, Tree v := by intro v hv; rw [encBo, List.mem_singleton] at hv; subst hv; exact .plain _ rfl
theorem load_encBo {l : List Bool} {i : Nat} (hi : i < l.length) : mkLoadF (flatV encBo l) i (some (false, 1)) = some (.bool l[i]) := loadF_one (f := fun b : Bool => .bool b) hi
attribute [go_sem] length_encBo load_encBo
def sc (l : List Bool) (k : Nat) : Nat := ((l.take k).filter id).length
theorem sc_le (l : List Bool) (k : Nat) : sc l k ≤ k := by
  unfold sc
  have h1 := List.length_filter_le id (l.take k)
  rw [List.length_take] at h1
  omega
theorem sc_succ {l : List Bool} {k : Nat} (h : k < l.length) : sc l (k + 1) = sc l k + (bif l[k] then 1 else 0) := by
  unfold sc
  rw [List.take_add_one, List.getElem?_eq_getElem h, List.filter_append, List.length_append]
  cases l[k] <;> rfl
def bkV (n k : Nat) : Value := if k = 0 then .slice none 0 0 else .slice (some ⟨n, 0, none⟩) 1 1
def bkO (A : Array Value) (k c : Nat) : AObj := if k = 0 then .dead else .cells (fame A ((c : Nat) : Int) ((k - c : Nat) : Int)) 22 true
theorem bkV_ren {n k L : Nat} (h : n < L) : VRen id L (bkV n k) (bkV n k) := by
  unfold bkV; split
  · exact .plain _ rfl
  · exact .slice _ _ _ _ _ h rfl
theorem bkV_pick {n k L : Nat} {js : List Nat} (hk : n + 2 < L) (hj : js.getD 2 2 = 3) : VRen (Am.pick n js) L (bkV (n + 2) (k + 1)) (.slice (some ⟨n + 3, 0, none⟩) 1 1) := by
  show VRen _ _ (.slice (some ⟨n + 2, 0, none⟩) 1 1) _
  exact .slice _ _ _ _ _ hk (by rw [pick_new, hj])
/-- a book of one that is looked at -/
theorem find1 (A : Array Value) (hA : A.size = 20) (bA : A.all isByte = true) (k c : Nat) (hc : c ≤ k) {H : AH} {n : Nat} (hb : H[n]? = some (bkO A k c)) :
    ACalls Try.prog 7 #[bkV n k, .agg A] H (fun v h' => v = .agg (fame A ((c : Nat) : Int) ((k - c : Nat) : Int)) ∧ h' = H) := by
  cases k with
  | zero =>
    have : c = 0 := by omega
    subst this
    exact findE A hA bA H
  | succ k => exact findS A hA bA _ _ (b := n) (rw := true) hb (by omega)
theorem find2 (A B : Array Value) (hA : A.size = 20) (bA : A.all isByte = true) (hB : B.size = 20) (bB : B.all isByte = true) (hne : cmpV A B ≠ 0) (k c : Nat) (hc : c ≤ k) {H : AH} {n : Nat} (hb : H[n]? = some (bkO A k c)) :
    ACalls Try.prog 7 #[bkV n k, .agg B] H (fun v h' => v = .agg (fame B 0 0) ∧ h' = H) := by
  cases k with
  | zero => exact findE B hB bB H
  | succ k => exact findD A B hA bA hB bB hne _ _ (b := n) (rw := true) hb (by omega)

theorem see1 (A : Array Value) (hA : A.size = 20) (bA : A.all isByte = true) (k c : Nat) (hc : c ≤ k) (hk : k < 900) {H : AH} {n : Nat} (hb : H[n]? = some (bkO A k c)) :
    ACalls Try.prog 5 #[bkV n k, .agg A] H (fun v h' => v = .slice (some ⟨H.length, 0, none⟩) 1 1 ∧ h' = H ++ [bkO A (k + 1) (c + 1)]) := by
  have e : bkO A (k + 1) (c + 1) = .cells (fame A ((c + 1 : Nat) : Int) ((k - c : Nat) : Int)) 22 true := by
    rw [bkO, if_neg (by omega), show k + 1 - (c + 1) = k - c by omega]
  rw [e]
  cases k with
  | zero =>
    have : c = 0 := by omega
    subst this
    exact seeE A hA bA H
  | succ k => exact seeS A hA bA c (k + 1 - c) (by omega) (by omega) (by omega) (b := n) hb
theorem inc1 (A : Array Value) (hA : A.size = 20) (bA : A.all isByte = true) (k c : Nat) (hc : c ≤ k) (hk : k < 900) {H : AH} {n : Nat} (hb : H[n]? = some (bkO A k c)) :
    ACalls Try.prog 6 #[bkV n k, .agg A] H (fun v h' => v = .slice (some ⟨H.length, 0, none⟩) 1 1 ∧ h' = H ++ [bkO A (k + 1) c]) := by
  have e : bkO A (k + 1) c = .cells (fame A ((c : Nat) : Int) ((k - c + 1 : Nat) : Int)) 22 true := by
    rw [bkO, if_neg (by omega), show k + 1 - c = k - c + 1 by omega]
  rw [e]
  cases k with
  | zero =>
    have : c = 0 := by omega
    subst this
    exact incE A hA bA H
  | succ k => exact incS A hA bA c (k + 1 - c) (by omega) (by omega) (by omega) (b := n) hb
end Go.Proofs
