import Derived.Test.YtihdilnanhjedaaAm37x
import Derived.Test.YtihdilnanhjedaaProg
import Derived.KernelRfl
/- Closed facts of the types and functions. -/
namespace Go.Proofs
open Go Go.Am
theorem Try.tyc0 : tyc Try.prog 0 = some (false, 1) := by kernel_rfl
theorem Try.load0 {h : AH} {b o : Nat} : aload Try.prog h 0 (.pointer (some ⟨b, o, none⟩)) = mkLoad o (some (false, 1)) h[b]? := aload_eq Try.tyc0
theorem Try.loadF0 {h : AH} {c : Array Value} {n : Nat} : aload Try.prog h 0 (fp c n) = mkLoadF c n (some (false, 1)) := aload_fp Try.tyc0
theorem Try.store0 {h : AH} {b o : Nat} {v : Value} : astore Try.prog h 0 (.pointer (some ⟨b, o, none⟩)) v = mkStore h b o v (some (false, 1)) h[b]? := astore_eq' Try.tyc0
theorem Try.some0 : (tyc Try.prog 0).isSome = true := by rw [Try.tyc0]; rfl
theorem Try.tyc1 : tyc Try.prog 1 = some (false, 1) := by kernel_rfl
theorem Try.load1 {h : AH} {b o : Nat} : aload Try.prog h 1 (.pointer (some ⟨b, o, none⟩)) = mkLoad o (some (false, 1)) h[b]? := aload_eq Try.tyc1
theorem Try.loadF1 {h : AH} {c : Array Value} {n : Nat} : aload Try.prog h 1 (fp c n) = mkLoadF c n (some (false, 1)) := aload_fp Try.tyc1
theorem Try.store1 {h : AH} {b o : Nat} {v : Value} : astore Try.prog h 1 (.pointer (some ⟨b, o, none⟩)) v = mkStore h b o v (some (false, 1)) h[b]? := astore_eq' Try.tyc1
theorem Try.some1 : (tyc Try.prog 1).isSome = true := by rw [Try.tyc1]; rfl
theorem Try.tyc2 : tyc Try.prog 2 = some (false, 1) := by kernel_rfl
theorem Try.load2 {h : AH} {b o : Nat} : aload Try.prog h 2 (.pointer (some ⟨b, o, none⟩)) = mkLoad o (some (false, 1)) h[b]? := aload_eq Try.tyc2
theorem Try.loadF2 {h : AH} {c : Array Value} {n : Nat} : aload Try.prog h 2 (fp c n) = mkLoadF c n (some (false, 1)) := aload_fp Try.tyc2
theorem Try.store2 {h : AH} {b o : Nat} {v : Value} : astore Try.prog h 2 (.pointer (some ⟨b, o, none⟩)) v = mkStore h b o v (some (false, 1)) h[b]? := astore_eq' Try.tyc2
theorem Try.some2 : (tyc Try.prog 2).isSome = true := by rw [Try.tyc2]; rfl
theorem Try.tyc3 : tyc Try.prog 3 = some (false, 1) := by kernel_rfl
theorem Try.load3 {h : AH} {b o : Nat} : aload Try.prog h 3 (.pointer (some ⟨b, o, none⟩)) = mkLoad o (some (false, 1)) h[b]? := aload_eq Try.tyc3
theorem Try.loadF3 {h : AH} {c : Array Value} {n : Nat} : aload Try.prog h 3 (fp c n) = mkLoadF c n (some (false, 1)) := aload_fp Try.tyc3
theorem Try.store3 {h : AH} {b o : Nat} {v : Value} : astore Try.prog h 3 (.pointer (some ⟨b, o, none⟩)) v = mkStore h b o v (some (false, 1)) h[b]? := astore_eq' Try.tyc3
theorem Try.some3 : (tyc Try.prog 3).isSome = true := by rw [Try.tyc3]; rfl
theorem Try.tyc4 : tyc Try.prog 4 = some (false, 1) := by kernel_rfl
theorem Try.load4 {h : AH} {b o : Nat} : aload Try.prog h 4 (.pointer (some ⟨b, o, none⟩)) = mkLoad o (some (false, 1)) h[b]? := aload_eq Try.tyc4
theorem Try.loadF4 {h : AH} {c : Array Value} {n : Nat} : aload Try.prog h 4 (fp c n) = mkLoadF c n (some (false, 1)) := aload_fp Try.tyc4
theorem Try.store4 {h : AH} {b o : Nat} {v : Value} : astore Try.prog h 4 (.pointer (some ⟨b, o, none⟩)) v = mkStore h b o v (some (false, 1)) h[b]? := astore_eq' Try.tyc4
theorem Try.some4 : (tyc Try.prog 4).isSome = true := by rw [Try.tyc4]; rfl
theorem Try.tyc5 : tyc Try.prog 5 = some (false, 1) := by kernel_rfl
theorem Try.load5 {h : AH} {b o : Nat} : aload Try.prog h 5 (.pointer (some ⟨b, o, none⟩)) = mkLoad o (some (false, 1)) h[b]? := aload_eq Try.tyc5
theorem Try.loadF5 {h : AH} {c : Array Value} {n : Nat} : aload Try.prog h 5 (fp c n) = mkLoadF c n (some (false, 1)) := aload_fp Try.tyc5
theorem Try.store5 {h : AH} {b o : Nat} {v : Value} : astore Try.prog h 5 (.pointer (some ⟨b, o, none⟩)) v = mkStore h b o v (some (false, 1)) h[b]? := astore_eq' Try.tyc5
theorem Try.some5 : (tyc Try.prog 5).isSome = true := by rw [Try.tyc5]; rfl
theorem Try.tyc6 : tyc Try.prog 6 = some (false, 1) := by kernel_rfl
theorem Try.load6 {h : AH} {b o : Nat} : aload Try.prog h 6 (.pointer (some ⟨b, o, none⟩)) = mkLoad o (some (false, 1)) h[b]? := aload_eq Try.tyc6
theorem Try.loadF6 {h : AH} {c : Array Value} {n : Nat} : aload Try.prog h 6 (fp c n) = mkLoadF c n (some (false, 1)) := aload_fp Try.tyc6
theorem Try.store6 {h : AH} {b o : Nat} {v : Value} : astore Try.prog h 6 (.pointer (some ⟨b, o, none⟩)) v = mkStore h b o v (some (false, 1)) h[b]? := astore_eq' Try.tyc6
theorem Try.some6 : (tyc Try.prog 6).isSome = true := by rw [Try.tyc6]; rfl
theorem Try.tyc7 : tyc Try.prog 7 = some (true, 4) := by kernel_rfl
theorem Try.load7 {h : AH} {b o : Nat} : aload Try.prog h 7 (.pointer (some ⟨b, o, none⟩)) = mkLoad o (some (true, 4)) h[b]? := aload_eq Try.tyc7
theorem Try.loadF7 {h : AH} {c : Array Value} {n : Nat} : aload Try.prog h 7 (fp c n) = mkLoadF c n (some (true, 4)) := aload_fp Try.tyc7
theorem Try.store7 {h : AH} {b o : Nat} {v : Value} : astore Try.prog h 7 (.pointer (some ⟨b, o, none⟩)) v = mkStore h b o v (some (true, 4)) h[b]? := astore_eq' Try.tyc7
theorem Try.some7 : (tyc Try.prog 7).isSome = true := by rw [Try.tyc7]; rfl
theorem Try.tyc8 : tyc Try.prog 8 = some (true, 4) := by kernel_rfl
theorem Try.load8 {h : AH} {b o : Nat} : aload Try.prog h 8 (.pointer (some ⟨b, o, none⟩)) = mkLoad o (some (true, 4)) h[b]? := aload_eq Try.tyc8
theorem Try.loadF8 {h : AH} {c : Array Value} {n : Nat} : aload Try.prog h 8 (fp c n) = mkLoadF c n (some (true, 4)) := aload_fp Try.tyc8
theorem Try.store8 {h : AH} {b o : Nat} {v : Value} : astore Try.prog h 8 (.pointer (some ⟨b, o, none⟩)) v = mkStore h b o v (some (true, 4)) h[b]? := astore_eq' Try.tyc8
theorem Try.some8 : (tyc Try.prog 8).isSome = true := by rw [Try.tyc8]; rfl
theorem Try.tyc9 : tyc Try.prog 9 = some (false, 1) := by kernel_rfl
theorem Try.load9 {h : AH} {b o : Nat} : aload Try.prog h 9 (.pointer (some ⟨b, o, none⟩)) = mkLoad o (some (false, 1)) h[b]? := aload_eq Try.tyc9
theorem Try.loadF9 {h : AH} {c : Array Value} {n : Nat} : aload Try.prog h 9 (fp c n) = mkLoadF c n (some (false, 1)) := aload_fp Try.tyc9
theorem Try.store9 {h : AH} {b o : Nat} {v : Value} : astore Try.prog h 9 (.pointer (some ⟨b, o, none⟩)) v = mkStore h b o v (some (false, 1)) h[b]? := astore_eq' Try.tyc9
theorem Try.some9 : (tyc Try.prog 9).isSome = true := by rw [Try.tyc9]; rfl
theorem Try.tyc10 : tyc Try.prog 10 = some (false, 1) := by kernel_rfl
theorem Try.load10 {h : AH} {b o : Nat} : aload Try.prog h 10 (.pointer (some ⟨b, o, none⟩)) = mkLoad o (some (false, 1)) h[b]? := aload_eq Try.tyc10
theorem Try.loadF10 {h : AH} {c : Array Value} {n : Nat} : aload Try.prog h 10 (fp c n) = mkLoadF c n (some (false, 1)) := aload_fp Try.tyc10
theorem Try.store10 {h : AH} {b o : Nat} {v : Value} : astore Try.prog h 10 (.pointer (some ⟨b, o, none⟩)) v = mkStore h b o v (some (false, 1)) h[b]? := astore_eq' Try.tyc10
theorem Try.some10 : (tyc Try.prog 10).isSome = true := by rw [Try.tyc10]; rfl
theorem Try.tyc11 : tyc Try.prog 11 = some (false, 1) := by kernel_rfl
theorem Try.load11 {h : AH} {b o : Nat} : aload Try.prog h 11 (.pointer (some ⟨b, o, none⟩)) = mkLoad o (some (false, 1)) h[b]? := aload_eq Try.tyc11
theorem Try.loadF11 {h : AH} {c : Array Value} {n : Nat} : aload Try.prog h 11 (fp c n) = mkLoadF c n (some (false, 1)) := aload_fp Try.tyc11
theorem Try.store11 {h : AH} {b o : Nat} {v : Value} : astore Try.prog h 11 (.pointer (some ⟨b, o, none⟩)) v = mkStore h b o v (some (false, 1)) h[b]? := astore_eq' Try.tyc11
theorem Try.some11 : (tyc Try.prog 11).isSome = true := by rw [Try.tyc11]; rfl
theorem Try.tyc12 : tyc Try.prog 12 = some (false, 1) := by kernel_rfl
theorem Try.load12 {h : AH} {b o : Nat} : aload Try.prog h 12 (.pointer (some ⟨b, o, none⟩)) = mkLoad o (some (false, 1)) h[b]? := aload_eq Try.tyc12
theorem Try.loadF12 {h : AH} {c : Array Value} {n : Nat} : aload Try.prog h 12 (fp c n) = mkLoadF c n (some (false, 1)) := aload_fp Try.tyc12
theorem Try.store12 {h : AH} {b o : Nat} {v : Value} : astore Try.prog h 12 (.pointer (some ⟨b, o, none⟩)) v = mkStore h b o v (some (false, 1)) h[b]? := astore_eq' Try.tyc12
theorem Try.some12 : (tyc Try.prog 12).isSome = true := by rw [Try.tyc12]; rfl
theorem Try.tyc13 : tyc Try.prog 13 = some (true, 2) := by kernel_rfl
theorem Try.load13 {h : AH} {b o : Nat} : aload Try.prog h 13 (.pointer (some ⟨b, o, none⟩)) = mkLoad o (some (true, 2)) h[b]? := aload_eq Try.tyc13
theorem Try.loadF13 {h : AH} {c : Array Value} {n : Nat} : aload Try.prog h 13 (fp c n) = mkLoadF c n (some (true, 2)) := aload_fp Try.tyc13
theorem Try.store13 {h : AH} {b o : Nat} {v : Value} : astore Try.prog h 13 (.pointer (some ⟨b, o, none⟩)) v = mkStore h b o v (some (true, 2)) h[b]? := astore_eq' Try.tyc13
theorem Try.some13 : (tyc Try.prog 13).isSome = true := by rw [Try.tyc13]; rfl
theorem Try.tyc14 : tyc Try.prog 14 = some (true, 2) := by kernel_rfl
theorem Try.load14 {h : AH} {b o : Nat} : aload Try.prog h 14 (.pointer (some ⟨b, o, none⟩)) = mkLoad o (some (true, 2)) h[b]? := aload_eq Try.tyc14
theorem Try.loadF14 {h : AH} {c : Array Value} {n : Nat} : aload Try.prog h 14 (fp c n) = mkLoadF c n (some (true, 2)) := aload_fp Try.tyc14
theorem Try.store14 {h : AH} {b o : Nat} {v : Value} : astore Try.prog h 14 (.pointer (some ⟨b, o, none⟩)) v = mkStore h b o v (some (true, 2)) h[b]? := astore_eq' Try.tyc14
theorem Try.some14 : (tyc Try.prog 14).isSome = true := by rw [Try.tyc14]; rfl
theorem Try.tyc15 : tyc Try.prog 15 = some (false, 1) := by kernel_rfl
theorem Try.load15 {h : AH} {b o : Nat} : aload Try.prog h 15 (.pointer (some ⟨b, o, none⟩)) = mkLoad o (some (false, 1)) h[b]? := aload_eq Try.tyc15
theorem Try.loadF15 {h : AH} {c : Array Value} {n : Nat} : aload Try.prog h 15 (fp c n) = mkLoadF c n (some (false, 1)) := aload_fp Try.tyc15
theorem Try.store15 {h : AH} {b o : Nat} {v : Value} : astore Try.prog h 15 (.pointer (some ⟨b, o, none⟩)) v = mkStore h b o v (some (false, 1)) h[b]? := astore_eq' Try.tyc15
theorem Try.some15 : (tyc Try.prog 15).isSome = true := by rw [Try.tyc15]; rfl
theorem Try.tyc16 : tyc Try.prog 16 = some (false, 1) := by kernel_rfl
theorem Try.load16 {h : AH} {b o : Nat} : aload Try.prog h 16 (.pointer (some ⟨b, o, none⟩)) = mkLoad o (some (false, 1)) h[b]? := aload_eq Try.tyc16
theorem Try.loadF16 {h : AH} {c : Array Value} {n : Nat} : aload Try.prog h 16 (fp c n) = mkLoadF c n (some (false, 1)) := aload_fp Try.tyc16
theorem Try.store16 {h : AH} {b o : Nat} {v : Value} : astore Try.prog h 16 (.pointer (some ⟨b, o, none⟩)) v = mkStore h b o v (some (false, 1)) h[b]? := astore_eq' Try.tyc16
theorem Try.some16 : (tyc Try.prog 16).isSome = true := by rw [Try.tyc16]; rfl
theorem Try.tyc17 : tyc Try.prog 17 = some (false, 1) := by kernel_rfl
theorem Try.load17 {h : AH} {b o : Nat} : aload Try.prog h 17 (.pointer (some ⟨b, o, none⟩)) = mkLoad o (some (false, 1)) h[b]? := aload_eq Try.tyc17
theorem Try.loadF17 {h : AH} {c : Array Value} {n : Nat} : aload Try.prog h 17 (fp c n) = mkLoadF c n (some (false, 1)) := aload_fp Try.tyc17
theorem Try.store17 {h : AH} {b o : Nat} {v : Value} : astore Try.prog h 17 (.pointer (some ⟨b, o, none⟩)) v = mkStore h b o v (some (false, 1)) h[b]? := astore_eq' Try.tyc17
theorem Try.some17 : (tyc Try.prog 17).isSome = true := by rw [Try.tyc17]; rfl
theorem Try.tyc18 : tyc Try.prog 18 = some (true, 1) := by kernel_rfl
theorem Try.load18 {h : AH} {b o : Nat} : aload Try.prog h 18 (.pointer (some ⟨b, o, none⟩)) = mkLoad o (some (true, 1)) h[b]? := aload_eq Try.tyc18
theorem Try.loadF18 {h : AH} {c : Array Value} {n : Nat} : aload Try.prog h 18 (fp c n) = mkLoadF c n (some (true, 1)) := aload_fp Try.tyc18
theorem Try.store18 {h : AH} {b o : Nat} {v : Value} : astore Try.prog h 18 (.pointer (some ⟨b, o, none⟩)) v = mkStore h b o v (some (true, 1)) h[b]? := astore_eq' Try.tyc18
theorem Try.some18 : (tyc Try.prog 18).isSome = true := by rw [Try.tyc18]; rfl
theorem Try.tyc19 : tyc Try.prog 19 = some (true, 1) := by kernel_rfl
theorem Try.load19 {h : AH} {b o : Nat} : aload Try.prog h 19 (.pointer (some ⟨b, o, none⟩)) = mkLoad o (some (true, 1)) h[b]? := aload_eq Try.tyc19
theorem Try.loadF19 {h : AH} {c : Array Value} {n : Nat} : aload Try.prog h 19 (fp c n) = mkLoadF c n (some (true, 1)) := aload_fp Try.tyc19
theorem Try.store19 {h : AH} {b o : Nat} {v : Value} : astore Try.prog h 19 (.pointer (some ⟨b, o, none⟩)) v = mkStore h b o v (some (true, 1)) h[b]? := astore_eq' Try.tyc19
theorem Try.some19 : (tyc Try.prog 19).isSome = true := by rw [Try.tyc19]; rfl
theorem Try.tyc20 : tyc Try.prog 20 = some (false, 1) := by kernel_rfl
theorem Try.load20 {h : AH} {b o : Nat} : aload Try.prog h 20 (.pointer (some ⟨b, o, none⟩)) = mkLoad o (some (false, 1)) h[b]? := aload_eq Try.tyc20
theorem Try.loadF20 {h : AH} {c : Array Value} {n : Nat} : aload Try.prog h 20 (fp c n) = mkLoadF c n (some (false, 1)) := aload_fp Try.tyc20
theorem Try.store20 {h : AH} {b o : Nat} {v : Value} : astore Try.prog h 20 (.pointer (some ⟨b, o, none⟩)) v = mkStore h b o v (some (false, 1)) h[b]? := astore_eq' Try.tyc20
theorem Try.some20 : (tyc Try.prog 20).isSome = true := by rw [Try.tyc20]; rfl
theorem Try.tyc21 : tyc Try.prog 21 = some (false, 1) := by kernel_rfl
theorem Try.load21 {h : AH} {b o : Nat} : aload Try.prog h 21 (.pointer (some ⟨b, o, none⟩)) = mkLoad o (some (false, 1)) h[b]? := aload_eq Try.tyc21
theorem Try.loadF21 {h : AH} {c : Array Value} {n : Nat} : aload Try.prog h 21 (fp c n) = mkLoadF c n (some (false, 1)) := aload_fp Try.tyc21
theorem Try.store21 {h : AH} {b o : Nat} {v : Value} : astore Try.prog h 21 (.pointer (some ⟨b, o, none⟩)) v = mkStore h b o v (some (false, 1)) h[b]? := astore_eq' Try.tyc21
theorem Try.some21 : (tyc Try.prog 21).isSome = true := by rw [Try.tyc21]; rfl
theorem Try.tyc22 : tyc Try.prog 22 = some (false, 1) := by kernel_rfl
theorem Try.load22 {h : AH} {b o : Nat} : aload Try.prog h 22 (.pointer (some ⟨b, o, none⟩)) = mkLoad o (some (false, 1)) h[b]? := aload_eq Try.tyc22
theorem Try.loadF22 {h : AH} {c : Array Value} {n : Nat} : aload Try.prog h 22 (fp c n) = mkLoadF c n (some (false, 1)) := aload_fp Try.tyc22
theorem Try.store22 {h : AH} {b o : Nat} {v : Value} : astore Try.prog h 22 (.pointer (some ⟨b, o, none⟩)) v = mkStore h b o v (some (false, 1)) h[b]? := astore_eq' Try.tyc22
theorem Try.some22 : (tyc Try.prog 22).isSome = true := by rw [Try.tyc22]; rfl
theorem Try.tyc23 : tyc Try.prog 23 = some (false, 1) := by kernel_rfl
theorem Try.load23 {h : AH} {b o : Nat} : aload Try.prog h 23 (.pointer (some ⟨b, o, none⟩)) = mkLoad o (some (false, 1)) h[b]? := aload_eq Try.tyc23
theorem Try.loadF23 {h : AH} {c : Array Value} {n : Nat} : aload Try.prog h 23 (fp c n) = mkLoadF c n (some (false, 1)) := aload_fp Try.tyc23
theorem Try.store23 {h : AH} {b o : Nat} {v : Value} : astore Try.prog h 23 (.pointer (some ⟨b, o, none⟩)) v = mkStore h b o v (some (false, 1)) h[b]? := astore_eq' Try.tyc23
theorem Try.some23 : (tyc Try.prog 23).isSome = true := by rw [Try.tyc23]; rfl
theorem Try.tyc24 : tyc Try.prog 24 = some (false, 1) := by kernel_rfl
theorem Try.load24 {h : AH} {b o : Nat} : aload Try.prog h 24 (.pointer (some ⟨b, o, none⟩)) = mkLoad o (some (false, 1)) h[b]? := aload_eq Try.tyc24
theorem Try.loadF24 {h : AH} {c : Array Value} {n : Nat} : aload Try.prog h 24 (fp c n) = mkLoadF c n (some (false, 1)) := aload_fp Try.tyc24
theorem Try.store24 {h : AH} {b o : Nat} {v : Value} : astore Try.prog h 24 (.pointer (some ⟨b, o, none⟩)) v = mkStore h b o v (some (false, 1)) h[b]? := astore_eq' Try.tyc24
theorem Try.some24 : (tyc Try.prog 24).isSome = true := by rw [Try.tyc24]; rfl
theorem Try.tyc25 : tyc Try.prog 25 = some (false, 1) := by kernel_rfl
theorem Try.load25 {h : AH} {b o : Nat} : aload Try.prog h 25 (.pointer (some ⟨b, o, none⟩)) = mkLoad o (some (false, 1)) h[b]? := aload_eq Try.tyc25
theorem Try.loadF25 {h : AH} {c : Array Value} {n : Nat} : aload Try.prog h 25 (fp c n) = mkLoadF c n (some (false, 1)) := aload_fp Try.tyc25
theorem Try.store25 {h : AH} {b o : Nat} {v : Value} : astore Try.prog h 25 (.pointer (some ⟨b, o, none⟩)) v = mkStore h b o v (some (false, 1)) h[b]? := astore_eq' Try.tyc25
theorem Try.some25 : (tyc Try.prog 25).isSome = true := by rw [Try.tyc25]; rfl
theorem Try.tyc26 : tyc Try.prog 26 = some (false, 1) := by kernel_rfl
theorem Try.load26 {h : AH} {b o : Nat} : aload Try.prog h 26 (.pointer (some ⟨b, o, none⟩)) = mkLoad o (some (false, 1)) h[b]? := aload_eq Try.tyc26
theorem Try.loadF26 {h : AH} {c : Array Value} {n : Nat} : aload Try.prog h 26 (fp c n) = mkLoadF c n (some (false, 1)) := aload_fp Try.tyc26
theorem Try.store26 {h : AH} {b o : Nat} {v : Value} : astore Try.prog h 26 (.pointer (some ⟨b, o, none⟩)) v = mkStore h b o v (some (false, 1)) h[b]? := astore_eq' Try.tyc26
theorem Try.some26 : (tyc Try.prog 26).isSome = true := by rw [Try.tyc26]; rfl
theorem Try.tyc27 : tyc Try.prog 27 = some (true, 2) := by kernel_rfl
theorem Try.load27 {h : AH} {b o : Nat} : aload Try.prog h 27 (.pointer (some ⟨b, o, none⟩)) = mkLoad o (some (true, 2)) h[b]? := aload_eq Try.tyc27
theorem Try.loadF27 {h : AH} {c : Array Value} {n : Nat} : aload Try.prog h 27 (fp c n) = mkLoadF c n (some (true, 2)) := aload_fp Try.tyc27
theorem Try.store27 {h : AH} {b o : Nat} {v : Value} : astore Try.prog h 27 (.pointer (some ⟨b, o, none⟩)) v = mkStore h b o v (some (true, 2)) h[b]? := astore_eq' Try.tyc27
theorem Try.some27 : (tyc Try.prog 27).isSome = true := by rw [Try.tyc27]; rfl
theorem Try.tyc28 : tyc Try.prog 28 = some (true, 2) := by kernel_rfl
theorem Try.load28 {h : AH} {b o : Nat} : aload Try.prog h 28 (.pointer (some ⟨b, o, none⟩)) = mkLoad o (some (true, 2)) h[b]? := aload_eq Try.tyc28
theorem Try.loadF28 {h : AH} {c : Array Value} {n : Nat} : aload Try.prog h 28 (fp c n) = mkLoadF c n (some (true, 2)) := aload_fp Try.tyc28
theorem Try.store28 {h : AH} {b o : Nat} {v : Value} : astore Try.prog h 28 (.pointer (some ⟨b, o, none⟩)) v = mkStore h b o v (some (true, 2)) h[b]? := astore_eq' Try.tyc28
theorem Try.some28 : (tyc Try.prog 28).isSome = true := by rw [Try.tyc28]; rfl
theorem Try.tyc29 : tyc Try.prog 29 = some (false, 1) := by kernel_rfl
theorem Try.load29 {h : AH} {b o : Nat} : aload Try.prog h 29 (.pointer (some ⟨b, o, none⟩)) = mkLoad o (some (false, 1)) h[b]? := aload_eq Try.tyc29
theorem Try.loadF29 {h : AH} {c : Array Value} {n : Nat} : aload Try.prog h 29 (fp c n) = mkLoadF c n (some (false, 1)) := aload_fp Try.tyc29
theorem Try.store29 {h : AH} {b o : Nat} {v : Value} : astore Try.prog h 29 (.pointer (some ⟨b, o, none⟩)) v = mkStore h b o v (some (false, 1)) h[b]? := astore_eq' Try.tyc29
theorem Try.some29 : (tyc Try.prog 29).isSome = true := by rw [Try.tyc29]; rfl
theorem Try.tyc30 : tyc Try.prog 30 = some (false, 1) := by kernel_rfl
theorem Try.load30 {h : AH} {b o : Nat} : aload Try.prog h 30 (.pointer (some ⟨b, o, none⟩)) = mkLoad o (some (false, 1)) h[b]? := aload_eq Try.tyc30
theorem Try.loadF30 {h : AH} {c : Array Value} {n : Nat} : aload Try.prog h 30 (fp c n) = mkLoadF c n (some (false, 1)) := aload_fp Try.tyc30
theorem Try.store30 {h : AH} {b o : Nat} {v : Value} : astore Try.prog h 30 (.pointer (some ⟨b, o, none⟩)) v = mkStore h b o v (some (false, 1)) h[b]? := astore_eq' Try.tyc30
theorem Try.some30 : (tyc Try.prog 30).isSome = true := by rw [Try.tyc30]; rfl
theorem Try.tyc31 : tyc Try.prog 31 = some (false, 1) := by kernel_rfl
theorem Try.load31 {h : AH} {b o : Nat} : aload Try.prog h 31 (.pointer (some ⟨b, o, none⟩)) = mkLoad o (some (false, 1)) h[b]? := aload_eq Try.tyc31
theorem Try.loadF31 {h : AH} {c : Array Value} {n : Nat} : aload Try.prog h 31 (fp c n) = mkLoadF c n (some (false, 1)) := aload_fp Try.tyc31
theorem Try.store31 {h : AH} {b o : Nat} {v : Value} : astore Try.prog h 31 (.pointer (some ⟨b, o, none⟩)) v = mkStore h b o v (some (false, 1)) h[b]? := astore_eq' Try.tyc31
theorem Try.some31 : (tyc Try.prog 31).isSome = true := by rw [Try.tyc31]; rfl
theorem Try.tyc32 : tyc Try.prog 32 = some (true, 20) := by kernel_rfl
theorem Try.load32 {h : AH} {b o : Nat} : aload Try.prog h 32 (.pointer (some ⟨b, o, none⟩)) = mkLoad o (some (true, 20)) h[b]? := aload_eq Try.tyc32
theorem Try.loadF32 {h : AH} {c : Array Value} {n : Nat} : aload Try.prog h 32 (fp c n) = mkLoadF c n (some (true, 20)) := aload_fp Try.tyc32
theorem Try.store32 {h : AH} {b o : Nat} {v : Value} : astore Try.prog h 32 (.pointer (some ⟨b, o, none⟩)) v = mkStore h b o v (some (true, 20)) h[b]? := astore_eq' Try.tyc32
theorem Try.some32 : (tyc Try.prog 32).isSome = true := by rw [Try.tyc32]; rfl
theorem Try.tyc33 : tyc Try.prog 33 = some (true, 20) := by kernel_rfl
theorem Try.load33 {h : AH} {b o : Nat} : aload Try.prog h 33 (.pointer (some ⟨b, o, none⟩)) = mkLoad o (some (true, 20)) h[b]? := aload_eq Try.tyc33
theorem Try.loadF33 {h : AH} {c : Array Value} {n : Nat} : aload Try.prog h 33 (fp c n) = mkLoadF c n (some (true, 20)) := aload_fp Try.tyc33
theorem Try.store33 {h : AH} {b o : Nat} {v : Value} : astore Try.prog h 33 (.pointer (some ⟨b, o, none⟩)) v = mkStore h b o v (some (true, 20)) h[b]? := astore_eq' Try.tyc33
theorem Try.some33 : (tyc Try.prog 33).isSome = true := by rw [Try.tyc33]; rfl
theorem Try.tyc34 : tyc Try.prog 34 = some (false, 1) := by kernel_rfl
theorem Try.load34 {h : AH} {b o : Nat} : aload Try.prog h 34 (.pointer (some ⟨b, o, none⟩)) = mkLoad o (some (false, 1)) h[b]? := aload_eq Try.tyc34
theorem Try.loadF34 {h : AH} {c : Array Value} {n : Nat} : aload Try.prog h 34 (fp c n) = mkLoadF c n (some (false, 1)) := aload_fp Try.tyc34
theorem Try.store34 {h : AH} {b o : Nat} {v : Value} : astore Try.prog h 34 (.pointer (some ⟨b, o, none⟩)) v = mkStore h b o v (some (false, 1)) h[b]? := astore_eq' Try.tyc34
theorem Try.some34 : (tyc Try.prog 34).isSome = true := by rw [Try.tyc34]; rfl
theorem Try.tyc35 : tyc Try.prog 35 = some (true, 4) := by kernel_rfl
theorem Try.load35 {h : AH} {b o : Nat} : aload Try.prog h 35 (.pointer (some ⟨b, o, none⟩)) = mkLoad o (some (true, 4)) h[b]? := aload_eq Try.tyc35
theorem Try.loadF35 {h : AH} {c : Array Value} {n : Nat} : aload Try.prog h 35 (fp c n) = mkLoadF c n (some (true, 4)) := aload_fp Try.tyc35
theorem Try.store35 {h : AH} {b o : Nat} {v : Value} : astore Try.prog h 35 (.pointer (some ⟨b, o, none⟩)) v = mkStore h b o v (some (true, 4)) h[b]? := astore_eq' Try.tyc35
theorem Try.some35 : (tyc Try.prog 35).isSome = true := by rw [Try.tyc35]; rfl
theorem Try.tyc36 : tyc Try.prog 36 = some (true, 4) := by kernel_rfl
theorem Try.load36 {h : AH} {b o : Nat} : aload Try.prog h 36 (.pointer (some ⟨b, o, none⟩)) = mkLoad o (some (true, 4)) h[b]? := aload_eq Try.tyc36
theorem Try.loadF36 {h : AH} {c : Array Value} {n : Nat} : aload Try.prog h 36 (fp c n) = mkLoadF c n (some (true, 4)) := aload_fp Try.tyc36
theorem Try.store36 {h : AH} {b o : Nat} {v : Value} : astore Try.prog h 36 (.pointer (some ⟨b, o, none⟩)) v = mkStore h b o v (some (true, 4)) h[b]? := astore_eq' Try.tyc36
theorem Try.some36 : (tyc Try.prog 36).isSome = true := by rw [Try.tyc36]; rfl
theorem Try.tyc37 : tyc Try.prog 37 = some (false, 1) := by kernel_rfl
theorem Try.load37 {h : AH} {b o : Nat} : aload Try.prog h 37 (.pointer (some ⟨b, o, none⟩)) = mkLoad o (some (false, 1)) h[b]? := aload_eq Try.tyc37
theorem Try.loadF37 {h : AH} {c : Array Value} {n : Nat} : aload Try.prog h 37 (fp c n) = mkLoadF c n (some (false, 1)) := aload_fp Try.tyc37
theorem Try.store37 {h : AH} {b o : Nat} {v : Value} : astore Try.prog h 37 (.pointer (some ⟨b, o, none⟩)) v = mkStore h b o v (some (false, 1)) h[b]? := astore_eq' Try.tyc37
theorem Try.some37 : (tyc Try.prog 37).isSome = true := by rw [Try.tyc37]; rfl
theorem Try.tyc38 : tyc Try.prog 38 = some (false, 1) := by kernel_rfl
theorem Try.load38 {h : AH} {b o : Nat} : aload Try.prog h 38 (.pointer (some ⟨b, o, none⟩)) = mkLoad o (some (false, 1)) h[b]? := aload_eq Try.tyc38
theorem Try.loadF38 {h : AH} {c : Array Value} {n : Nat} : aload Try.prog h 38 (fp c n) = mkLoadF c n (some (false, 1)) := aload_fp Try.tyc38
theorem Try.store38 {h : AH} {b o : Nat} {v : Value} : astore Try.prog h 38 (.pointer (some ⟨b, o, none⟩)) v = mkStore h b o v (some (false, 1)) h[b]? := astore_eq' Try.tyc38
theorem Try.some38 : (tyc Try.prog 38).isSome = true := by rw [Try.tyc38]; rfl
theorem Try.tyc39 : tyc Try.prog 39 = some (false, 1) := by kernel_rfl
theorem Try.load39 {h : AH} {b o : Nat} : aload Try.prog h 39 (.pointer (some ⟨b, o, none⟩)) = mkLoad o (some (false, 1)) h[b]? := aload_eq Try.tyc39
theorem Try.loadF39 {h : AH} {c : Array Value} {n : Nat} : aload Try.prog h 39 (fp c n) = mkLoadF c n (some (false, 1)) := aload_fp Try.tyc39
theorem Try.store39 {h : AH} {b o : Nat} {v : Value} : astore Try.prog h 39 (.pointer (some ⟨b, o, none⟩)) v = mkStore h b o v (some (false, 1)) h[b]? := astore_eq' Try.tyc39
theorem Try.some39 : (tyc Try.prog 39).isSome = true := by rw [Try.tyc39]; rfl
theorem Try.tyc40 : tyc Try.prog 40 = some (false, 1) := by kernel_rfl
theorem Try.load40 {h : AH} {b o : Nat} : aload Try.prog h 40 (.pointer (some ⟨b, o, none⟩)) = mkLoad o (some (false, 1)) h[b]? := aload_eq Try.tyc40
theorem Try.loadF40 {h : AH} {c : Array Value} {n : Nat} : aload Try.prog h 40 (fp c n) = mkLoadF c n (some (false, 1)) := aload_fp Try.tyc40
theorem Try.store40 {h : AH} {b o : Nat} {v : Value} : astore Try.prog h 40 (.pointer (some ⟨b, o, none⟩)) v = mkStore h b o v (some (false, 1)) h[b]? := astore_eq' Try.tyc40
theorem Try.some40 : (tyc Try.prog 40).isSome = true := by rw [Try.tyc40]; rfl
theorem Try.tyc41 : tyc Try.prog 41 = some (false, 1) := by kernel_rfl
theorem Try.load41 {h : AH} {b o : Nat} : aload Try.prog h 41 (.pointer (some ⟨b, o, none⟩)) = mkLoad o (some (false, 1)) h[b]? := aload_eq Try.tyc41
theorem Try.loadF41 {h : AH} {c : Array Value} {n : Nat} : aload Try.prog h 41 (fp c n) = mkLoadF c n (some (false, 1)) := aload_fp Try.tyc41
theorem Try.store41 {h : AH} {b o : Nat} {v : Value} : astore Try.prog h 41 (.pointer (some ⟨b, o, none⟩)) v = mkStore h b o v (some (false, 1)) h[b]? := astore_eq' Try.tyc41
theorem Try.some41 : (tyc Try.prog 41).isSome = true := by rw [Try.tyc41]; rfl
theorem Try.tyc42 : tyc Try.prog 42 = some (false, 1) := by kernel_rfl
theorem Try.load42 {h : AH} {b o : Nat} : aload Try.prog h 42 (.pointer (some ⟨b, o, none⟩)) = mkLoad o (some (false, 1)) h[b]? := aload_eq Try.tyc42
theorem Try.loadF42 {h : AH} {c : Array Value} {n : Nat} : aload Try.prog h 42 (fp c n) = mkLoadF c n (some (false, 1)) := aload_fp Try.tyc42
theorem Try.store42 {h : AH} {b o : Nat} {v : Value} : astore Try.prog h 42 (.pointer (some ⟨b, o, none⟩)) v = mkStore h b o v (some (false, 1)) h[b]? := astore_eq' Try.tyc42
theorem Try.some42 : (tyc Try.prog 42).isSome = true := by rw [Try.tyc42]; rfl
theorem Try.tyc43 : tyc Try.prog 43 = some (false, 1) := by kernel_rfl
theorem Try.load43 {h : AH} {b o : Nat} : aload Try.prog h 43 (.pointer (some ⟨b, o, none⟩)) = mkLoad o (some (false, 1)) h[b]? := aload_eq Try.tyc43
theorem Try.loadF43 {h : AH} {c : Array Value} {n : Nat} : aload Try.prog h 43 (fp c n) = mkLoadF c n (some (false, 1)) := aload_fp Try.tyc43
theorem Try.store43 {h : AH} {b o : Nat} {v : Value} : astore Try.prog h 43 (.pointer (some ⟨b, o, none⟩)) v = mkStore h b o v (some (false, 1)) h[b]? := astore_eq' Try.tyc43
theorem Try.some43 : (tyc Try.prog 43).isSome = true := by rw [Try.tyc43]; rfl
theorem Try.tyc44 : tyc Try.prog 44 = some (false, 1) := by kernel_rfl
theorem Try.load44 {h : AH} {b o : Nat} : aload Try.prog h 44 (.pointer (some ⟨b, o, none⟩)) = mkLoad o (some (false, 1)) h[b]? := aload_eq Try.tyc44
theorem Try.loadF44 {h : AH} {c : Array Value} {n : Nat} : aload Try.prog h 44 (fp c n) = mkLoadF c n (some (false, 1)) := aload_fp Try.tyc44
theorem Try.store44 {h : AH} {b o : Nat} {v : Value} : astore Try.prog h 44 (.pointer (some ⟨b, o, none⟩)) v = mkStore h b o v (some (false, 1)) h[b]? := astore_eq' Try.tyc44
theorem Try.some44 : (tyc Try.prog 44).isSome = true := by rw [Try.tyc44]; rfl
theorem Try.tyc45 : tyc Try.prog 45 = some (false, 1) := by kernel_rfl
theorem Try.load45 {h : AH} {b o : Nat} : aload Try.prog h 45 (.pointer (some ⟨b, o, none⟩)) = mkLoad o (some (false, 1)) h[b]? := aload_eq Try.tyc45
theorem Try.loadF45 {h : AH} {c : Array Value} {n : Nat} : aload Try.prog h 45 (fp c n) = mkLoadF c n (some (false, 1)) := aload_fp Try.tyc45
theorem Try.store45 {h : AH} {b o : Nat} {v : Value} : astore Try.prog h 45 (.pointer (some ⟨b, o, none⟩)) v = mkStore h b o v (some (false, 1)) h[b]? := astore_eq' Try.tyc45
theorem Try.some45 : (tyc Try.prog 45).isSome = true := by rw [Try.tyc45]; rfl
theorem Try.tyc46 : tyc Try.prog 46 = some (false, 1) := by kernel_rfl
theorem Try.load46 {h : AH} {b o : Nat} : aload Try.prog h 46 (.pointer (some ⟨b, o, none⟩)) = mkLoad o (some (false, 1)) h[b]? := aload_eq Try.tyc46
theorem Try.loadF46 {h : AH} {c : Array Value} {n : Nat} : aload Try.prog h 46 (fp c n) = mkLoadF c n (some (false, 1)) := aload_fp Try.tyc46
theorem Try.store46 {h : AH} {b o : Nat} {v : Value} : astore Try.prog h 46 (.pointer (some ⟨b, o, none⟩)) v = mkStore h b o v (some (false, 1)) h[b]? := astore_eq' Try.tyc46
theorem Try.some46 : (tyc Try.prog 46).isSome = true := by rw [Try.tyc46]; rfl
theorem Try.tyc47 : tyc Try.prog 47 = some (false, 1) := by kernel_rfl
theorem Try.load47 {h : AH} {b o : Nat} : aload Try.prog h 47 (.pointer (some ⟨b, o, none⟩)) = mkLoad o (some (false, 1)) h[b]? := aload_eq Try.tyc47
theorem Try.loadF47 {h : AH} {c : Array Value} {n : Nat} : aload Try.prog h 47 (fp c n) = mkLoadF c n (some (false, 1)) := aload_fp Try.tyc47
theorem Try.store47 {h : AH} {b o : Nat} {v : Value} : astore Try.prog h 47 (.pointer (some ⟨b, o, none⟩)) v = mkStore h b o v (some (false, 1)) h[b]? := astore_eq' Try.tyc47
theorem Try.some47 : (tyc Try.prog 47).isSome = true := by rw [Try.tyc47]; rfl
theorem Try.tyc48 : tyc Try.prog 48 = some (false, 1) := by kernel_rfl
theorem Try.load48 {h : AH} {b o : Nat} : aload Try.prog h 48 (.pointer (some ⟨b, o, none⟩)) = mkLoad o (some (false, 1)) h[b]? := aload_eq Try.tyc48
theorem Try.loadF48 {h : AH} {c : Array Value} {n : Nat} : aload Try.prog h 48 (fp c n) = mkLoadF c n (some (false, 1)) := aload_fp Try.tyc48
theorem Try.store48 {h : AH} {b o : Nat} {v : Value} : astore Try.prog h 48 (.pointer (some ⟨b, o, none⟩)) v = mkStore h b o v (some (false, 1)) h[b]? := astore_eq' Try.tyc48
theorem Try.some48 : (tyc Try.prog 48).isSome = true := by rw [Try.tyc48]; rfl
theorem Try.tyc49 : tyc Try.prog 49 = some (true, 32) := by kernel_rfl
theorem Try.load49 {h : AH} {b o : Nat} : aload Try.prog h 49 (.pointer (some ⟨b, o, none⟩)) = mkLoad o (some (true, 32)) h[b]? := aload_eq Try.tyc49
theorem Try.loadF49 {h : AH} {c : Array Value} {n : Nat} : aload Try.prog h 49 (fp c n) = mkLoadF c n (some (true, 32)) := aload_fp Try.tyc49
theorem Try.store49 {h : AH} {b o : Nat} {v : Value} : astore Try.prog h 49 (.pointer (some ⟨b, o, none⟩)) v = mkStore h b o v (some (true, 32)) h[b]? := astore_eq' Try.tyc49
theorem Try.some49 : (tyc Try.prog 49).isSome = true := by rw [Try.tyc49]; rfl
theorem Try.tyc50 : tyc Try.prog 50 = some (true, 32) := by kernel_rfl
theorem Try.load50 {h : AH} {b o : Nat} : aload Try.prog h 50 (.pointer (some ⟨b, o, none⟩)) = mkLoad o (some (true, 32)) h[b]? := aload_eq Try.tyc50
theorem Try.loadF50 {h : AH} {c : Array Value} {n : Nat} : aload Try.prog h 50 (fp c n) = mkLoadF c n (some (true, 32)) := aload_fp Try.tyc50
theorem Try.store50 {h : AH} {b o : Nat} {v : Value} : astore Try.prog h 50 (.pointer (some ⟨b, o, none⟩)) v = mkStore h b o v (some (true, 32)) h[b]? := astore_eq' Try.tyc50
theorem Try.some50 : (tyc Try.prog 50).isSome = true := by rw [Try.tyc50]; rfl
theorem Try.tyc51 : tyc Try.prog 51 = some (false, 1) := by kernel_rfl
theorem Try.load51 {h : AH} {b o : Nat} : aload Try.prog h 51 (.pointer (some ⟨b, o, none⟩)) = mkLoad o (some (false, 1)) h[b]? := aload_eq Try.tyc51
theorem Try.loadF51 {h : AH} {c : Array Value} {n : Nat} : aload Try.prog h 51 (fp c n) = mkLoadF c n (some (false, 1)) := aload_fp Try.tyc51
theorem Try.store51 {h : AH} {b o : Nat} {v : Value} : astore Try.prog h 51 (.pointer (some ⟨b, o, none⟩)) v = mkStore h b o v (some (false, 1)) h[b]? := astore_eq' Try.tyc51
theorem Try.some51 : (tyc Try.prog 51).isSome = true := by rw [Try.tyc51]; rfl
theorem Try.tyc52 : tyc Try.prog 52 = some (false, 1) := by kernel_rfl
theorem Try.load52 {h : AH} {b o : Nat} : aload Try.prog h 52 (.pointer (some ⟨b, o, none⟩)) = mkLoad o (some (false, 1)) h[b]? := aload_eq Try.tyc52
theorem Try.loadF52 {h : AH} {c : Array Value} {n : Nat} : aload Try.prog h 52 (fp c n) = mkLoadF c n (some (false, 1)) := aload_fp Try.tyc52
theorem Try.store52 {h : AH} {b o : Nat} {v : Value} : astore Try.prog h 52 (.pointer (some ⟨b, o, none⟩)) v = mkStore h b o v (some (false, 1)) h[b]? := astore_eq' Try.tyc52
theorem Try.some52 : (tyc Try.prog 52).isSome = true := by rw [Try.tyc52]; rfl
theorem Try.tyc53 : tyc Try.prog 53 = some (true, 25) := by kernel_rfl
theorem Try.load53 {h : AH} {b o : Nat} : aload Try.prog h 53 (.pointer (some ⟨b, o, none⟩)) = mkLoad o (some (true, 25)) h[b]? := aload_eq Try.tyc53
theorem Try.loadF53 {h : AH} {c : Array Value} {n : Nat} : aload Try.prog h 53 (fp c n) = mkLoadF c n (some (true, 25)) := aload_fp Try.tyc53
theorem Try.store53 {h : AH} {b o : Nat} {v : Value} : astore Try.prog h 53 (.pointer (some ⟨b, o, none⟩)) v = mkStore h b o v (some (true, 25)) h[b]? := astore_eq' Try.tyc53
theorem Try.some53 : (tyc Try.prog 53).isSome = true := by rw [Try.tyc53]; rfl
theorem Try.tyc54 : tyc Try.prog 54 = some (true, 25) := by kernel_rfl
theorem Try.load54 {h : AH} {b o : Nat} : aload Try.prog h 54 (.pointer (some ⟨b, o, none⟩)) = mkLoad o (some (true, 25)) h[b]? := aload_eq Try.tyc54
theorem Try.loadF54 {h : AH} {c : Array Value} {n : Nat} : aload Try.prog h 54 (fp c n) = mkLoadF c n (some (true, 25)) := aload_fp Try.tyc54
theorem Try.store54 {h : AH} {b o : Nat} {v : Value} : astore Try.prog h 54 (.pointer (some ⟨b, o, none⟩)) v = mkStore h b o v (some (true, 25)) h[b]? := astore_eq' Try.tyc54
theorem Try.some54 : (tyc Try.prog 54).isSome = true := by rw [Try.tyc54]; rfl
theorem Try.tyc55 : tyc Try.prog 55 = some (false, 1) := by kernel_rfl
theorem Try.load55 {h : AH} {b o : Nat} : aload Try.prog h 55 (.pointer (some ⟨b, o, none⟩)) = mkLoad o (some (false, 1)) h[b]? := aload_eq Try.tyc55
theorem Try.loadF55 {h : AH} {c : Array Value} {n : Nat} : aload Try.prog h 55 (fp c n) = mkLoadF c n (some (false, 1)) := aload_fp Try.tyc55
theorem Try.store55 {h : AH} {b o : Nat} {v : Value} : astore Try.prog h 55 (.pointer (some ⟨b, o, none⟩)) v = mkStore h b o v (some (false, 1)) h[b]? := astore_eq' Try.tyc55
theorem Try.some55 : (tyc Try.prog 55).isSome = true := by rw [Try.tyc55]; rfl
theorem Try.tyc56 : tyc Try.prog 56 = some (false, 1) := by kernel_rfl
theorem Try.load56 {h : AH} {b o : Nat} : aload Try.prog h 56 (.pointer (some ⟨b, o, none⟩)) = mkLoad o (some (false, 1)) h[b]? := aload_eq Try.tyc56
theorem Try.loadF56 {h : AH} {c : Array Value} {n : Nat} : aload Try.prog h 56 (fp c n) = mkLoadF c n (some (false, 1)) := aload_fp Try.tyc56
theorem Try.store56 {h : AH} {b o : Nat} {v : Value} : astore Try.prog h 56 (.pointer (some ⟨b, o, none⟩)) v = mkStore h b o v (some (false, 1)) h[b]? := astore_eq' Try.tyc56
theorem Try.some56 : (tyc Try.prog 56).isSome = true := by rw [Try.tyc56]; rfl
theorem Try.tyc57 : tyc Try.prog 57 = some (false, 1) := by kernel_rfl
theorem Try.load57 {h : AH} {b o : Nat} : aload Try.prog h 57 (.pointer (some ⟨b, o, none⟩)) = mkLoad o (some (false, 1)) h[b]? := aload_eq Try.tyc57
theorem Try.loadF57 {h : AH} {c : Array Value} {n : Nat} : aload Try.prog h 57 (fp c n) = mkLoadF c n (some (false, 1)) := aload_fp Try.tyc57
theorem Try.store57 {h : AH} {b o : Nat} {v : Value} : astore Try.prog h 57 (.pointer (some ⟨b, o, none⟩)) v = mkStore h b o v (some (false, 1)) h[b]? := astore_eq' Try.tyc57
theorem Try.some57 : (tyc Try.prog 57).isSome = true := by rw [Try.tyc57]; rfl
theorem Try.tyc58 : tyc Try.prog 58 = some (false, 1) := by kernel_rfl
theorem Try.load58 {h : AH} {b o : Nat} : aload Try.prog h 58 (.pointer (some ⟨b, o, none⟩)) = mkLoad o (some (false, 1)) h[b]? := aload_eq Try.tyc58
theorem Try.loadF58 {h : AH} {c : Array Value} {n : Nat} : aload Try.prog h 58 (fp c n) = mkLoadF c n (some (false, 1)) := aload_fp Try.tyc58
theorem Try.store58 {h : AH} {b o : Nat} {v : Value} : astore Try.prog h 58 (.pointer (some ⟨b, o, none⟩)) v = mkStore h b o v (some (false, 1)) h[b]? := astore_eq' Try.tyc58
theorem Try.some58 : (tyc Try.prog 58).isSome = true := by rw [Try.tyc58]; rfl
theorem Try.tyc59 : tyc Try.prog 59 = some (false, 1) := by kernel_rfl
theorem Try.load59 {h : AH} {b o : Nat} : aload Try.prog h 59 (.pointer (some ⟨b, o, none⟩)) = mkLoad o (some (false, 1)) h[b]? := aload_eq Try.tyc59
theorem Try.loadF59 {h : AH} {c : Array Value} {n : Nat} : aload Try.prog h 59 (fp c n) = mkLoadF c n (some (false, 1)) := aload_fp Try.tyc59
theorem Try.store59 {h : AH} {b o : Nat} {v : Value} : astore Try.prog h 59 (.pointer (some ⟨b, o, none⟩)) v = mkStore h b o v (some (false, 1)) h[b]? := astore_eq' Try.tyc59
theorem Try.some59 : (tyc Try.prog 59).isSome = true := by rw [Try.tyc59]; rfl
theorem Try.tyc60 : tyc Try.prog 60 = some (false, 1) := by kernel_rfl
theorem Try.load60 {h : AH} {b o : Nat} : aload Try.prog h 60 (.pointer (some ⟨b, o, none⟩)) = mkLoad o (some (false, 1)) h[b]? := aload_eq Try.tyc60
theorem Try.loadF60 {h : AH} {c : Array Value} {n : Nat} : aload Try.prog h 60 (fp c n) = mkLoadF c n (some (false, 1)) := aload_fp Try.tyc60
theorem Try.store60 {h : AH} {b o : Nat} {v : Value} : astore Try.prog h 60 (.pointer (some ⟨b, o, none⟩)) v = mkStore h b o v (some (false, 1)) h[b]? := astore_eq' Try.tyc60
theorem Try.some60 : (tyc Try.prog 60).isSome = true := by rw [Try.tyc60]; rfl
theorem Try.tyc61 : tyc Try.prog 61 = some (true, 0) := by kernel_rfl
theorem Try.load61 {h : AH} {b o : Nat} : aload Try.prog h 61 (.pointer (some ⟨b, o, none⟩)) = mkLoad o (some (true, 0)) h[b]? := aload_eq Try.tyc61
theorem Try.loadF61 {h : AH} {c : Array Value} {n : Nat} : aload Try.prog h 61 (fp c n) = mkLoadF c n (some (true, 0)) := aload_fp Try.tyc61
theorem Try.store61 {h : AH} {b o : Nat} {v : Value} : astore Try.prog h 61 (.pointer (some ⟨b, o, none⟩)) v = mkStore h b o v (some (true, 0)) h[b]? := astore_eq' Try.tyc61
theorem Try.some61 : (tyc Try.prog 61).isSome = true := by rw [Try.tyc61]; rfl
theorem Try.tyc62 : tyc Try.prog 62 = some (false, 1) := by kernel_rfl
theorem Try.load62 {h : AH} {b o : Nat} : aload Try.prog h 62 (.pointer (some ⟨b, o, none⟩)) = mkLoad o (some (false, 1)) h[b]? := aload_eq Try.tyc62
theorem Try.loadF62 {h : AH} {c : Array Value} {n : Nat} : aload Try.prog h 62 (fp c n) = mkLoadF c n (some (false, 1)) := aload_fp Try.tyc62
theorem Try.store62 {h : AH} {b o : Nat} {v : Value} : astore Try.prog h 62 (.pointer (some ⟨b, o, none⟩)) v = mkStore h b o v (some (false, 1)) h[b]? := astore_eq' Try.tyc62
theorem Try.some62 : (tyc Try.prog 62).isSome = true := by rw [Try.tyc62]; rfl
theorem Try.tyc63 : tyc Try.prog 63 = some (false, 1) := by kernel_rfl
theorem Try.load63 {h : AH} {b o : Nat} : aload Try.prog h 63 (.pointer (some ⟨b, o, none⟩)) = mkLoad o (some (false, 1)) h[b]? := aload_eq Try.tyc63
theorem Try.loadF63 {h : AH} {c : Array Value} {n : Nat} : aload Try.prog h 63 (fp c n) = mkLoadF c n (some (false, 1)) := aload_fp Try.tyc63
theorem Try.store63 {h : AH} {b o : Nat} {v : Value} : astore Try.prog h 63 (.pointer (some ⟨b, o, none⟩)) v = mkStore h b o v (some (false, 1)) h[b]? := astore_eq' Try.tyc63
theorem Try.some63 : (tyc Try.prog 63).isSome = true := by rw [Try.tyc63]; rfl
theorem Try.tyc64 : tyc Try.prog 64 = some (false, 1) := by kernel_rfl
theorem Try.load64 {h : AH} {b o : Nat} : aload Try.prog h 64 (.pointer (some ⟨b, o, none⟩)) = mkLoad o (some (false, 1)) h[b]? := aload_eq Try.tyc64
theorem Try.loadF64 {h : AH} {c : Array Value} {n : Nat} : aload Try.prog h 64 (fp c n) = mkLoadF c n (some (false, 1)) := aload_fp Try.tyc64
theorem Try.store64 {h : AH} {b o : Nat} {v : Value} : astore Try.prog h 64 (.pointer (some ⟨b, o, none⟩)) v = mkStore h b o v (some (false, 1)) h[b]? := astore_eq' Try.tyc64
theorem Try.some64 : (tyc Try.prog 64).isSome = true := by rw [Try.tyc64]; rfl
theorem Try.tyc65 : tyc Try.prog 65 = some (false, 1) := by kernel_rfl
theorem Try.load65 {h : AH} {b o : Nat} : aload Try.prog h 65 (.pointer (some ⟨b, o, none⟩)) = mkLoad o (some (false, 1)) h[b]? := aload_eq Try.tyc65
theorem Try.loadF65 {h : AH} {c : Array Value} {n : Nat} : aload Try.prog h 65 (fp c n) = mkLoadF c n (some (false, 1)) := aload_fp Try.tyc65
theorem Try.store65 {h : AH} {b o : Nat} {v : Value} : astore Try.prog h 65 (.pointer (some ⟨b, o, none⟩)) v = mkStore h b o v (some (false, 1)) h[b]? := astore_eq' Try.tyc65
theorem Try.some65 : (tyc Try.prog 65).isSome = true := by rw [Try.tyc65]; rfl
theorem Try.tyc66 : tyc Try.prog 66 = some (false, 1) := by kernel_rfl
theorem Try.load66 {h : AH} {b o : Nat} : aload Try.prog h 66 (.pointer (some ⟨b, o, none⟩)) = mkLoad o (some (false, 1)) h[b]? := aload_eq Try.tyc66
theorem Try.loadF66 {h : AH} {c : Array Value} {n : Nat} : aload Try.prog h 66 (fp c n) = mkLoadF c n (some (false, 1)) := aload_fp Try.tyc66
theorem Try.store66 {h : AH} {b o : Nat} {v : Value} : astore Try.prog h 66 (.pointer (some ⟨b, o, none⟩)) v = mkStore h b o v (some (false, 1)) h[b]? := astore_eq' Try.tyc66
theorem Try.some66 : (tyc Try.prog 66).isSome = true := by rw [Try.tyc66]; rfl
theorem Try.tyc67 : tyc Try.prog 67 = some (false, 1) := by kernel_rfl
theorem Try.load67 {h : AH} {b o : Nat} : aload Try.prog h 67 (.pointer (some ⟨b, o, none⟩)) = mkLoad o (some (false, 1)) h[b]? := aload_eq Try.tyc67
theorem Try.loadF67 {h : AH} {c : Array Value} {n : Nat} : aload Try.prog h 67 (fp c n) = mkLoadF c n (some (false, 1)) := aload_fp Try.tyc67
theorem Try.store67 {h : AH} {b o : Nat} {v : Value} : astore Try.prog h 67 (.pointer (some ⟨b, o, none⟩)) v = mkStore h b o v (some (false, 1)) h[b]? := astore_eq' Try.tyc67
theorem Try.some67 : (tyc Try.prog 67).isSome = true := by rw [Try.tyc67]; rfl
theorem Try.tyc68 : tyc Try.prog 68 = some (false, 1) := by kernel_rfl
theorem Try.load68 {h : AH} {b o : Nat} : aload Try.prog h 68 (.pointer (some ⟨b, o, none⟩)) = mkLoad o (some (false, 1)) h[b]? := aload_eq Try.tyc68
theorem Try.loadF68 {h : AH} {c : Array Value} {n : Nat} : aload Try.prog h 68 (fp c n) = mkLoadF c n (some (false, 1)) := aload_fp Try.tyc68
theorem Try.store68 {h : AH} {b o : Nat} {v : Value} : astore Try.prog h 68 (.pointer (some ⟨b, o, none⟩)) v = mkStore h b o v (some (false, 1)) h[b]? := astore_eq' Try.tyc68
theorem Try.some68 : (tyc Try.prog 68).isSome = true := by rw [Try.tyc68]; rfl
theorem Try.tyc69 : tyc Try.prog 69 = some (false, 1) := by kernel_rfl
theorem Try.load69 {h : AH} {b o : Nat} : aload Try.prog h 69 (.pointer (some ⟨b, o, none⟩)) = mkLoad o (some (false, 1)) h[b]? := aload_eq Try.tyc69
theorem Try.loadF69 {h : AH} {c : Array Value} {n : Nat} : aload Try.prog h 69 (fp c n) = mkLoadF c n (some (false, 1)) := aload_fp Try.tyc69
theorem Try.store69 {h : AH} {b o : Nat} {v : Value} : astore Try.prog h 69 (.pointer (some ⟨b, o, none⟩)) v = mkStore h b o v (some (false, 1)) h[b]? := astore_eq' Try.tyc69
theorem Try.some69 : (tyc Try.prog 69).isSome = true := by rw [Try.tyc69]; rfl
theorem Try.tyc70 : tyc Try.prog 70 = some (false, 1) := by kernel_rfl
theorem Try.load70 {h : AH} {b o : Nat} : aload Try.prog h 70 (.pointer (some ⟨b, o, none⟩)) = mkLoad o (some (false, 1)) h[b]? := aload_eq Try.tyc70
theorem Try.loadF70 {h : AH} {c : Array Value} {n : Nat} : aload Try.prog h 70 (fp c n) = mkLoadF c n (some (false, 1)) := aload_fp Try.tyc70
theorem Try.store70 {h : AH} {b o : Nat} {v : Value} : astore Try.prog h 70 (.pointer (some ⟨b, o, none⟩)) v = mkStore h b o v (some (false, 1)) h[b]? := astore_eq' Try.tyc70
theorem Try.some70 : (tyc Try.prog 70).isSome = true := by rw [Try.tyc70]; rfl
theorem Try.tyc71 : tyc Try.prog 71 = some (false, 1) := by kernel_rfl
theorem Try.load71 {h : AH} {b o : Nat} : aload Try.prog h 71 (.pointer (some ⟨b, o, none⟩)) = mkLoad o (some (false, 1)) h[b]? := aload_eq Try.tyc71
theorem Try.loadF71 {h : AH} {c : Array Value} {n : Nat} : aload Try.prog h 71 (fp c n) = mkLoadF c n (some (false, 1)) := aload_fp Try.tyc71
theorem Try.store71 {h : AH} {b o : Nat} {v : Value} : astore Try.prog h 71 (.pointer (some ⟨b, o, none⟩)) v = mkStore h b o v (some (false, 1)) h[b]? := astore_eq' Try.tyc71
theorem Try.some71 : (tyc Try.prog 71).isSome = true := by rw [Try.tyc71]; rfl
theorem Try.tyc72 : tyc Try.prog 72 = some (false, 1) := by kernel_rfl
theorem Try.load72 {h : AH} {b o : Nat} : aload Try.prog h 72 (.pointer (some ⟨b, o, none⟩)) = mkLoad o (some (false, 1)) h[b]? := aload_eq Try.tyc72
theorem Try.loadF72 {h : AH} {c : Array Value} {n : Nat} : aload Try.prog h 72 (fp c n) = mkLoadF c n (some (false, 1)) := aload_fp Try.tyc72
theorem Try.store72 {h : AH} {b o : Nat} {v : Value} : astore Try.prog h 72 (.pointer (some ⟨b, o, none⟩)) v = mkStore h b o v (some (false, 1)) h[b]? := astore_eq' Try.tyc72
theorem Try.some72 : (tyc Try.prog 72).isSome = true := by rw [Try.tyc72]; rfl
theorem Try.tyc73 : tyc Try.prog 73 = some (false, 1) := by kernel_rfl
theorem Try.load73 {h : AH} {b o : Nat} : aload Try.prog h 73 (.pointer (some ⟨b, o, none⟩)) = mkLoad o (some (false, 1)) h[b]? := aload_eq Try.tyc73
theorem Try.loadF73 {h : AH} {c : Array Value} {n : Nat} : aload Try.prog h 73 (fp c n) = mkLoadF c n (some (false, 1)) := aload_fp Try.tyc73
theorem Try.store73 {h : AH} {b o : Nat} {v : Value} : astore Try.prog h 73 (.pointer (some ⟨b, o, none⟩)) v = mkStore h b o v (some (false, 1)) h[b]? := astore_eq' Try.tyc73
theorem Try.some73 : (tyc Try.prog 73).isSome = true := by rw [Try.tyc73]; rfl
theorem Try.tyc74 : tyc Try.prog 74 = some (false, 1) := by kernel_rfl
theorem Try.load74 {h : AH} {b o : Nat} : aload Try.prog h 74 (.pointer (some ⟨b, o, none⟩)) = mkLoad o (some (false, 1)) h[b]? := aload_eq Try.tyc74
theorem Try.loadF74 {h : AH} {c : Array Value} {n : Nat} : aload Try.prog h 74 (fp c n) = mkLoadF c n (some (false, 1)) := aload_fp Try.tyc74
theorem Try.store74 {h : AH} {b o : Nat} {v : Value} : astore Try.prog h 74 (.pointer (some ⟨b, o, none⟩)) v = mkStore h b o v (some (false, 1)) h[b]? := astore_eq' Try.tyc74
theorem Try.some74 : (tyc Try.prog 74).isSome = true := by rw [Try.tyc74]; rfl
theorem Try.tyc75 : tyc Try.prog 75 = some (false, 1) := by kernel_rfl
theorem Try.load75 {h : AH} {b o : Nat} : aload Try.prog h 75 (.pointer (some ⟨b, o, none⟩)) = mkLoad o (some (false, 1)) h[b]? := aload_eq Try.tyc75
theorem Try.loadF75 {h : AH} {c : Array Value} {n : Nat} : aload Try.prog h 75 (fp c n) = mkLoadF c n (some (false, 1)) := aload_fp Try.tyc75
theorem Try.store75 {h : AH} {b o : Nat} {v : Value} : astore Try.prog h 75 (.pointer (some ⟨b, o, none⟩)) v = mkStore h b o v (some (false, 1)) h[b]? := astore_eq' Try.tyc75
theorem Try.some75 : (tyc Try.prog 75).isSome = true := by rw [Try.tyc75]; rfl
theorem Try.tyc76 : tyc Try.prog 76 = some (false, 1) := by kernel_rfl
theorem Try.load76 {h : AH} {b o : Nat} : aload Try.prog h 76 (.pointer (some ⟨b, o, none⟩)) = mkLoad o (some (false, 1)) h[b]? := aload_eq Try.tyc76
theorem Try.loadF76 {h : AH} {c : Array Value} {n : Nat} : aload Try.prog h 76 (fp c n) = mkLoadF c n (some (false, 1)) := aload_fp Try.tyc76
theorem Try.store76 {h : AH} {b o : Nat} {v : Value} : astore Try.prog h 76 (.pointer (some ⟨b, o, none⟩)) v = mkStore h b o v (some (false, 1)) h[b]? := astore_eq' Try.tyc76
theorem Try.some76 : (tyc Try.prog 76).isSome = true := by rw [Try.tyc76]; rfl
theorem Try.tyc77 : tyc Try.prog 77 = some (false, 1) := by kernel_rfl
theorem Try.load77 {h : AH} {b o : Nat} : aload Try.prog h 77 (.pointer (some ⟨b, o, none⟩)) = mkLoad o (some (false, 1)) h[b]? := aload_eq Try.tyc77
theorem Try.loadF77 {h : AH} {c : Array Value} {n : Nat} : aload Try.prog h 77 (fp c n) = mkLoadF c n (some (false, 1)) := aload_fp Try.tyc77
theorem Try.store77 {h : AH} {b o : Nat} {v : Value} : astore Try.prog h 77 (.pointer (some ⟨b, o, none⟩)) v = mkStore h b o v (some (false, 1)) h[b]? := astore_eq' Try.tyc77
theorem Try.some77 : (tyc Try.prog 77).isSome = true := by rw [Try.tyc77]; rfl
theorem Try.tyc78 : tyc Try.prog 78 = some (false, 1) := by kernel_rfl
theorem Try.load78 {h : AH} {b o : Nat} : aload Try.prog h 78 (.pointer (some ⟨b, o, none⟩)) = mkLoad o (some (false, 1)) h[b]? := aload_eq Try.tyc78
theorem Try.loadF78 {h : AH} {c : Array Value} {n : Nat} : aload Try.prog h 78 (fp c n) = mkLoadF c n (some (false, 1)) := aload_fp Try.tyc78
theorem Try.store78 {h : AH} {b o : Nat} {v : Value} : astore Try.prog h 78 (.pointer (some ⟨b, o, none⟩)) v = mkStore h b o v (some (false, 1)) h[b]? := astore_eq' Try.tyc78
theorem Try.some78 : (tyc Try.prog 78).isSome = true := by rw [Try.tyc78]; rfl
theorem Try.tyc79 : tyc Try.prog 79 = some (false, 1) := by kernel_rfl
theorem Try.load79 {h : AH} {b o : Nat} : aload Try.prog h 79 (.pointer (some ⟨b, o, none⟩)) = mkLoad o (some (false, 1)) h[b]? := aload_eq Try.tyc79
theorem Try.loadF79 {h : AH} {c : Array Value} {n : Nat} : aload Try.prog h 79 (fp c n) = mkLoadF c n (some (false, 1)) := aload_fp Try.tyc79
theorem Try.store79 {h : AH} {b o : Nat} {v : Value} : astore Try.prog h 79 (.pointer (some ⟨b, o, none⟩)) v = mkStore h b o v (some (false, 1)) h[b]? := astore_eq' Try.tyc79
theorem Try.some79 : (tyc Try.prog 79).isSome = true := by rw [Try.tyc79]; rfl
theorem Try.tyc80 : tyc Try.prog 80 = some (false, 1) := by kernel_rfl
theorem Try.load80 {h : AH} {b o : Nat} : aload Try.prog h 80 (.pointer (some ⟨b, o, none⟩)) = mkLoad o (some (false, 1)) h[b]? := aload_eq Try.tyc80
theorem Try.loadF80 {h : AH} {c : Array Value} {n : Nat} : aload Try.prog h 80 (fp c n) = mkLoadF c n (some (false, 1)) := aload_fp Try.tyc80
theorem Try.store80 {h : AH} {b o : Nat} {v : Value} : astore Try.prog h 80 (.pointer (some ⟨b, o, none⟩)) v = mkStore h b o v (some (false, 1)) h[b]? := astore_eq' Try.tyc80
theorem Try.some80 : (tyc Try.prog 80).isSome = true := by rw [Try.tyc80]; rfl
theorem Try.tyc81 : tyc Try.prog 81 = some (false, 1) := by kernel_rfl
theorem Try.load81 {h : AH} {b o : Nat} : aload Try.prog h 81 (.pointer (some ⟨b, o, none⟩)) = mkLoad o (some (false, 1)) h[b]? := aload_eq Try.tyc81
theorem Try.loadF81 {h : AH} {c : Array Value} {n : Nat} : aload Try.prog h 81 (fp c n) = mkLoadF c n (some (false, 1)) := aload_fp Try.tyc81
theorem Try.store81 {h : AH} {b o : Nat} {v : Value} : astore Try.prog h 81 (.pointer (some ⟨b, o, none⟩)) v = mkStore h b o v (some (false, 1)) h[b]? := astore_eq' Try.tyc81
theorem Try.some81 : (tyc Try.prog 81).isSome = true := by rw [Try.tyc81]; rfl
theorem Try.tyc82 : tyc Try.prog 82 = some (false, 1) := by kernel_rfl
theorem Try.load82 {h : AH} {b o : Nat} : aload Try.prog h 82 (.pointer (some ⟨b, o, none⟩)) = mkLoad o (some (false, 1)) h[b]? := aload_eq Try.tyc82
theorem Try.loadF82 {h : AH} {c : Array Value} {n : Nat} : aload Try.prog h 82 (fp c n) = mkLoadF c n (some (false, 1)) := aload_fp Try.tyc82
theorem Try.store82 {h : AH} {b o : Nat} {v : Value} : astore Try.prog h 82 (.pointer (some ⟨b, o, none⟩)) v = mkStore h b o v (some (false, 1)) h[b]? := astore_eq' Try.tyc82
theorem Try.some82 : (tyc Try.prog 82).isSome = true := by rw [Try.tyc82]; rfl
theorem Try.tyc83 : tyc Try.prog 83 = some (false, 1) := by kernel_rfl
theorem Try.load83 {h : AH} {b o : Nat} : aload Try.prog h 83 (.pointer (some ⟨b, o, none⟩)) = mkLoad o (some (false, 1)) h[b]? := aload_eq Try.tyc83
theorem Try.loadF83 {h : AH} {c : Array Value} {n : Nat} : aload Try.prog h 83 (fp c n) = mkLoadF c n (some (false, 1)) := aload_fp Try.tyc83
theorem Try.store83 {h : AH} {b o : Nat} {v : Value} : astore Try.prog h 83 (.pointer (some ⟨b, o, none⟩)) v = mkStore h b o v (some (false, 1)) h[b]? := astore_eq' Try.tyc83
theorem Try.some83 : (tyc Try.prog 83).isSome = true := by rw [Try.tyc83]; rfl
theorem Try.tyc84 : tyc Try.prog 84 = some (false, 1) := by kernel_rfl
theorem Try.load84 {h : AH} {b o : Nat} : aload Try.prog h 84 (.pointer (some ⟨b, o, none⟩)) = mkLoad o (some (false, 1)) h[b]? := aload_eq Try.tyc84
theorem Try.loadF84 {h : AH} {c : Array Value} {n : Nat} : aload Try.prog h 84 (fp c n) = mkLoadF c n (some (false, 1)) := aload_fp Try.tyc84
theorem Try.store84 {h : AH} {b o : Nat} {v : Value} : astore Try.prog h 84 (.pointer (some ⟨b, o, none⟩)) v = mkStore h b o v (some (false, 1)) h[b]? := astore_eq' Try.tyc84
theorem Try.some84 : (tyc Try.prog 84).isSome = true := by rw [Try.tyc84]; rfl
theorem Try.tyc85 : tyc Try.prog 85 = some (false, 1) := by kernel_rfl
theorem Try.load85 {h : AH} {b o : Nat} : aload Try.prog h 85 (.pointer (some ⟨b, o, none⟩)) = mkLoad o (some (false, 1)) h[b]? := aload_eq Try.tyc85
theorem Try.loadF85 {h : AH} {c : Array Value} {n : Nat} : aload Try.prog h 85 (fp c n) = mkLoadF c n (some (false, 1)) := aload_fp Try.tyc85
theorem Try.store85 {h : AH} {b o : Nat} {v : Value} : astore Try.prog h 85 (.pointer (some ⟨b, o, none⟩)) v = mkStore h b o v (some (false, 1)) h[b]? := astore_eq' Try.tyc85
theorem Try.some85 : (tyc Try.prog 85).isSome = true := by rw [Try.tyc85]; rfl
theorem Try.tyc86 : tyc Try.prog 86 = some (false, 1) := by kernel_rfl
theorem Try.load86 {h : AH} {b o : Nat} : aload Try.prog h 86 (.pointer (some ⟨b, o, none⟩)) = mkLoad o (some (false, 1)) h[b]? := aload_eq Try.tyc86
theorem Try.loadF86 {h : AH} {c : Array Value} {n : Nat} : aload Try.prog h 86 (fp c n) = mkLoadF c n (some (false, 1)) := aload_fp Try.tyc86
theorem Try.store86 {h : AH} {b o : Nat} {v : Value} : astore Try.prog h 86 (.pointer (some ⟨b, o, none⟩)) v = mkStore h b o v (some (false, 1)) h[b]? := astore_eq' Try.tyc86
theorem Try.some86 : (tyc Try.prog 86).isSome = true := by rw [Try.tyc86]; rfl
theorem Try.tyc87 : tyc Try.prog 87 = some (false, 1) := by kernel_rfl
theorem Try.load87 {h : AH} {b o : Nat} : aload Try.prog h 87 (.pointer (some ⟨b, o, none⟩)) = mkLoad o (some (false, 1)) h[b]? := aload_eq Try.tyc87
theorem Try.loadF87 {h : AH} {c : Array Value} {n : Nat} : aload Try.prog h 87 (fp c n) = mkLoadF c n (some (false, 1)) := aload_fp Try.tyc87
theorem Try.store87 {h : AH} {b o : Nat} {v : Value} : astore Try.prog h 87 (.pointer (some ⟨b, o, none⟩)) v = mkStore h b o v (some (false, 1)) h[b]? := astore_eq' Try.tyc87
theorem Try.some87 : (tyc Try.prog 87).isSome = true := by rw [Try.tyc87]; rfl
theorem Try.tyc88 : tyc Try.prog 88 = some (false, 1) := by kernel_rfl
theorem Try.load88 {h : AH} {b o : Nat} : aload Try.prog h 88 (.pointer (some ⟨b, o, none⟩)) = mkLoad o (some (false, 1)) h[b]? := aload_eq Try.tyc88
theorem Try.loadF88 {h : AH} {c : Array Value} {n : Nat} : aload Try.prog h 88 (fp c n) = mkLoadF c n (some (false, 1)) := aload_fp Try.tyc88
theorem Try.store88 {h : AH} {b o : Nat} {v : Value} : astore Try.prog h 88 (.pointer (some ⟨b, o, none⟩)) v = mkStore h b o v (some (false, 1)) h[b]? := astore_eq' Try.tyc88
theorem Try.some88 : (tyc Try.prog 88).isSome = true := by rw [Try.tyc88]; rfl
theorem Try.tyc89 : tyc Try.prog 89 = some (false, 1) := by kernel_rfl
theorem Try.load89 {h : AH} {b o : Nat} : aload Try.prog h 89 (.pointer (some ⟨b, o, none⟩)) = mkLoad o (some (false, 1)) h[b]? := aload_eq Try.tyc89
theorem Try.loadF89 {h : AH} {c : Array Value} {n : Nat} : aload Try.prog h 89 (fp c n) = mkLoadF c n (some (false, 1)) := aload_fp Try.tyc89
theorem Try.store89 {h : AH} {b o : Nat} {v : Value} : astore Try.prog h 89 (.pointer (some ⟨b, o, none⟩)) v = mkStore h b o v (some (false, 1)) h[b]? := astore_eq' Try.tyc89
theorem Try.some89 : (tyc Try.prog 89).isSome = true := by rw [Try.tyc89]; rfl
theorem Try.tyc90 : tyc Try.prog 90 = some (false, 1) := by kernel_rfl
theorem Try.load90 {h : AH} {b o : Nat} : aload Try.prog h 90 (.pointer (some ⟨b, o, none⟩)) = mkLoad o (some (false, 1)) h[b]? := aload_eq Try.tyc90
theorem Try.loadF90 {h : AH} {c : Array Value} {n : Nat} : aload Try.prog h 90 (fp c n) = mkLoadF c n (some (false, 1)) := aload_fp Try.tyc90
theorem Try.store90 {h : AH} {b o : Nat} {v : Value} : astore Try.prog h 90 (.pointer (some ⟨b, o, none⟩)) v = mkStore h b o v (some (false, 1)) h[b]? := astore_eq' Try.tyc90
theorem Try.some90 : (tyc Try.prog 90).isSome = true := by rw [Try.tyc90]; rfl
theorem Try.tyc91 : tyc Try.prog 91 = some (false, 1) := by kernel_rfl
theorem Try.load91 {h : AH} {b o : Nat} : aload Try.prog h 91 (.pointer (some ⟨b, o, none⟩)) = mkLoad o (some (false, 1)) h[b]? := aload_eq Try.tyc91
theorem Try.loadF91 {h : AH} {c : Array Value} {n : Nat} : aload Try.prog h 91 (fp c n) = mkLoadF c n (some (false, 1)) := aload_fp Try.tyc91
theorem Try.store91 {h : AH} {b o : Nat} {v : Value} : astore Try.prog h 91 (.pointer (some ⟨b, o, none⟩)) v = mkStore h b o v (some (false, 1)) h[b]? := astore_eq' Try.tyc91
theorem Try.some91 : (tyc Try.prog 91).isSome = true := by rw [Try.tyc91]; rfl
theorem Try.tyc92 : tyc Try.prog 92 = some (false, 1) := by kernel_rfl
theorem Try.load92 {h : AH} {b o : Nat} : aload Try.prog h 92 (.pointer (some ⟨b, o, none⟩)) = mkLoad o (some (false, 1)) h[b]? := aload_eq Try.tyc92
theorem Try.loadF92 {h : AH} {c : Array Value} {n : Nat} : aload Try.prog h 92 (fp c n) = mkLoadF c n (some (false, 1)) := aload_fp Try.tyc92
theorem Try.store92 {h : AH} {b o : Nat} {v : Value} : astore Try.prog h 92 (.pointer (some ⟨b, o, none⟩)) v = mkStore h b o v (some (false, 1)) h[b]? := astore_eq' Try.tyc92
theorem Try.some92 : (tyc Try.prog 92).isSome = true := by rw [Try.tyc92]; rfl
theorem Try.tyc93 : tyc Try.prog 93 = some (false, 1) := by kernel_rfl
theorem Try.load93 {h : AH} {b o : Nat} : aload Try.prog h 93 (.pointer (some ⟨b, o, none⟩)) = mkLoad o (some (false, 1)) h[b]? := aload_eq Try.tyc93
theorem Try.loadF93 {h : AH} {c : Array Value} {n : Nat} : aload Try.prog h 93 (fp c n) = mkLoadF c n (some (false, 1)) := aload_fp Try.tyc93
theorem Try.store93 {h : AH} {b o : Nat} {v : Value} : astore Try.prog h 93 (.pointer (some ⟨b, o, none⟩)) v = mkStore h b o v (some (false, 1)) h[b]? := astore_eq' Try.tyc93
theorem Try.some93 : (tyc Try.prog 93).isSome = true := by rw [Try.tyc93]; rfl
theorem Try.tyc94 : tyc Try.prog 94 = some (false, 1) := by kernel_rfl
theorem Try.load94 {h : AH} {b o : Nat} : aload Try.prog h 94 (.pointer (some ⟨b, o, none⟩)) = mkLoad o (some (false, 1)) h[b]? := aload_eq Try.tyc94
theorem Try.loadF94 {h : AH} {c : Array Value} {n : Nat} : aload Try.prog h 94 (fp c n) = mkLoadF c n (some (false, 1)) := aload_fp Try.tyc94
theorem Try.store94 {h : AH} {b o : Nat} {v : Value} : astore Try.prog h 94 (.pointer (some ⟨b, o, none⟩)) v = mkStore h b o v (some (false, 1)) h[b]? := astore_eq' Try.tyc94
theorem Try.some94 : (tyc Try.prog 94).isSome = true := by rw [Try.tyc94]; rfl
theorem Try.tyc95 : tyc Try.prog 95 = some (false, 1) := by kernel_rfl
theorem Try.load95 {h : AH} {b o : Nat} : aload Try.prog h 95 (.pointer (some ⟨b, o, none⟩)) = mkLoad o (some (false, 1)) h[b]? := aload_eq Try.tyc95
theorem Try.loadF95 {h : AH} {c : Array Value} {n : Nat} : aload Try.prog h 95 (fp c n) = mkLoadF c n (some (false, 1)) := aload_fp Try.tyc95
theorem Try.store95 {h : AH} {b o : Nat} {v : Value} : astore Try.prog h 95 (.pointer (some ⟨b, o, none⟩)) v = mkStore h b o v (some (false, 1)) h[b]? := astore_eq' Try.tyc95
theorem Try.some95 : (tyc Try.prog 95).isSome = true := by rw [Try.tyc95]; rfl
theorem Try.tyc96 : tyc Try.prog 96 = some (false, 1) := by kernel_rfl
theorem Try.load96 {h : AH} {b o : Nat} : aload Try.prog h 96 (.pointer (some ⟨b, o, none⟩)) = mkLoad o (some (false, 1)) h[b]? := aload_eq Try.tyc96
theorem Try.loadF96 {h : AH} {c : Array Value} {n : Nat} : aload Try.prog h 96 (fp c n) = mkLoadF c n (some (false, 1)) := aload_fp Try.tyc96
theorem Try.store96 {h : AH} {b o : Nat} {v : Value} : astore Try.prog h 96 (.pointer (some ⟨b, o, none⟩)) v = mkStore h b o v (some (false, 1)) h[b]? := astore_eq' Try.tyc96
theorem Try.some96 : (tyc Try.prog 96).isSome = true := by rw [Try.tyc96]; rfl
theorem Try.tyc97 : tyc Try.prog 97 = some (false, 1) := by kernel_rfl
theorem Try.load97 {h : AH} {b o : Nat} : aload Try.prog h 97 (.pointer (some ⟨b, o, none⟩)) = mkLoad o (some (false, 1)) h[b]? := aload_eq Try.tyc97
theorem Try.loadF97 {h : AH} {c : Array Value} {n : Nat} : aload Try.prog h 97 (fp c n) = mkLoadF c n (some (false, 1)) := aload_fp Try.tyc97
theorem Try.store97 {h : AH} {b o : Nat} {v : Value} : astore Try.prog h 97 (.pointer (some ⟨b, o, none⟩)) v = mkStore h b o v (some (false, 1)) h[b]? := astore_eq' Try.tyc97
theorem Try.some97 : (tyc Try.prog 97).isSome = true := by rw [Try.tyc97]; rfl
theorem Try.tyc98 : tyc Try.prog 98 = some (false, 1) := by kernel_rfl
theorem Try.load98 {h : AH} {b o : Nat} : aload Try.prog h 98 (.pointer (some ⟨b, o, none⟩)) = mkLoad o (some (false, 1)) h[b]? := aload_eq Try.tyc98
theorem Try.loadF98 {h : AH} {c : Array Value} {n : Nat} : aload Try.prog h 98 (fp c n) = mkLoadF c n (some (false, 1)) := aload_fp Try.tyc98
theorem Try.store98 {h : AH} {b o : Nat} {v : Value} : astore Try.prog h 98 (.pointer (some ⟨b, o, none⟩)) v = mkStore h b o v (some (false, 1)) h[b]? := astore_eq' Try.tyc98
theorem Try.some98 : (tyc Try.prog 98).isSome = true := by rw [Try.tyc98]; rfl
theorem Try.tyc99 : tyc Try.prog 99 = some (false, 1) := by kernel_rfl
theorem Try.load99 {h : AH} {b o : Nat} : aload Try.prog h 99 (.pointer (some ⟨b, o, none⟩)) = mkLoad o (some (false, 1)) h[b]? := aload_eq Try.tyc99
theorem Try.loadF99 {h : AH} {c : Array Value} {n : Nat} : aload Try.prog h 99 (fp c n) = mkLoadF c n (some (false, 1)) := aload_fp Try.tyc99
theorem Try.store99 {h : AH} {b o : Nat} {v : Value} : astore Try.prog h 99 (.pointer (some ⟨b, o, none⟩)) v = mkStore h b o v (some (false, 1)) h[b]? := astore_eq' Try.tyc99
theorem Try.some99 : (tyc Try.prog 99).isSome = true := by rw [Try.tyc99]; rfl
theorem Try.tyc100 : tyc Try.prog 100 = some (false, 1) := by kernel_rfl
theorem Try.load100 {h : AH} {b o : Nat} : aload Try.prog h 100 (.pointer (some ⟨b, o, none⟩)) = mkLoad o (some (false, 1)) h[b]? := aload_eq Try.tyc100
theorem Try.loadF100 {h : AH} {c : Array Value} {n : Nat} : aload Try.prog h 100 (fp c n) = mkLoadF c n (some (false, 1)) := aload_fp Try.tyc100
theorem Try.store100 {h : AH} {b o : Nat} {v : Value} : astore Try.prog h 100 (.pointer (some ⟨b, o, none⟩)) v = mkStore h b o v (some (false, 1)) h[b]? := astore_eq' Try.tyc100
theorem Try.some100 : (tyc Try.prog 100).isSome = true := by rw [Try.tyc100]; rfl
theorem Try.tyc101 : tyc Try.prog 101 = some (false, 1) := by kernel_rfl
theorem Try.load101 {h : AH} {b o : Nat} : aload Try.prog h 101 (.pointer (some ⟨b, o, none⟩)) = mkLoad o (some (false, 1)) h[b]? := aload_eq Try.tyc101
theorem Try.loadF101 {h : AH} {c : Array Value} {n : Nat} : aload Try.prog h 101 (fp c n) = mkLoadF c n (some (false, 1)) := aload_fp Try.tyc101
theorem Try.store101 {h : AH} {b o : Nat} {v : Value} : astore Try.prog h 101 (.pointer (some ⟨b, o, none⟩)) v = mkStore h b o v (some (false, 1)) h[b]? := astore_eq' Try.tyc101
theorem Try.some101 : (tyc Try.prog 101).isSome = true := by rw [Try.tyc101]; rfl
theorem Try.tyc102 : tyc Try.prog 102 = some (false, 1) := by kernel_rfl
theorem Try.load102 {h : AH} {b o : Nat} : aload Try.prog h 102 (.pointer (some ⟨b, o, none⟩)) = mkLoad o (some (false, 1)) h[b]? := aload_eq Try.tyc102
theorem Try.loadF102 {h : AH} {c : Array Value} {n : Nat} : aload Try.prog h 102 (fp c n) = mkLoadF c n (some (false, 1)) := aload_fp Try.tyc102
theorem Try.store102 {h : AH} {b o : Nat} {v : Value} : astore Try.prog h 102 (.pointer (some ⟨b, o, none⟩)) v = mkStore h b o v (some (false, 1)) h[b]? := astore_eq' Try.tyc102
theorem Try.some102 : (tyc Try.prog 102).isSome = true := by rw [Try.tyc102]; rfl
theorem Try.tyc103 : tyc Try.prog 103 = some (false, 1) := by kernel_rfl
theorem Try.load103 {h : AH} {b o : Nat} : aload Try.prog h 103 (.pointer (some ⟨b, o, none⟩)) = mkLoad o (some (false, 1)) h[b]? := aload_eq Try.tyc103
theorem Try.loadF103 {h : AH} {c : Array Value} {n : Nat} : aload Try.prog h 103 (fp c n) = mkLoadF c n (some (false, 1)) := aload_fp Try.tyc103
theorem Try.store103 {h : AH} {b o : Nat} {v : Value} : astore Try.prog h 103 (.pointer (some ⟨b, o, none⟩)) v = mkStore h b o v (some (false, 1)) h[b]? := astore_eq' Try.tyc103
theorem Try.some103 : (tyc Try.prog 103).isSome = true := by rw [Try.tyc103]; rfl
theorem Try.tyc104 : tyc Try.prog 104 = some (false, 1) := by kernel_rfl
theorem Try.load104 {h : AH} {b o : Nat} : aload Try.prog h 104 (.pointer (some ⟨b, o, none⟩)) = mkLoad o (some (false, 1)) h[b]? := aload_eq Try.tyc104
theorem Try.loadF104 {h : AH} {c : Array Value} {n : Nat} : aload Try.prog h 104 (fp c n) = mkLoadF c n (some (false, 1)) := aload_fp Try.tyc104
theorem Try.store104 {h : AH} {b o : Nat} {v : Value} : astore Try.prog h 104 (.pointer (some ⟨b, o, none⟩)) v = mkStore h b o v (some (false, 1)) h[b]? := astore_eq' Try.tyc104
theorem Try.some104 : (tyc Try.prog 104).isSome = true := by rw [Try.tyc104]; rfl
theorem Try.tyc105 : tyc Try.prog 105 = some (false, 1) := by kernel_rfl
theorem Try.load105 {h : AH} {b o : Nat} : aload Try.prog h 105 (.pointer (some ⟨b, o, none⟩)) = mkLoad o (some (false, 1)) h[b]? := aload_eq Try.tyc105
theorem Try.loadF105 {h : AH} {c : Array Value} {n : Nat} : aload Try.prog h 105 (fp c n) = mkLoadF c n (some (false, 1)) := aload_fp Try.tyc105
theorem Try.store105 {h : AH} {b o : Nat} {v : Value} : astore Try.prog h 105 (.pointer (some ⟨b, o, none⟩)) v = mkStore h b o v (some (false, 1)) h[b]? := astore_eq' Try.tyc105
theorem Try.some105 : (tyc Try.prog 105).isSome = true := by rw [Try.tyc105]; rfl
theorem Try.tyc106 : tyc Try.prog 106 = some (false, 1) := by kernel_rfl
theorem Try.load106 {h : AH} {b o : Nat} : aload Try.prog h 106 (.pointer (some ⟨b, o, none⟩)) = mkLoad o (some (false, 1)) h[b]? := aload_eq Try.tyc106
theorem Try.loadF106 {h : AH} {c : Array Value} {n : Nat} : aload Try.prog h 106 (fp c n) = mkLoadF c n (some (false, 1)) := aload_fp Try.tyc106
theorem Try.store106 {h : AH} {b o : Nat} {v : Value} : astore Try.prog h 106 (.pointer (some ⟨b, o, none⟩)) v = mkStore h b o v (some (false, 1)) h[b]? := astore_eq' Try.tyc106
theorem Try.some106 : (tyc Try.prog 106).isSome = true := by rw [Try.tyc106]; rfl
theorem Try.tyc107 : tyc Try.prog 107 = some (false, 1) := by kernel_rfl
theorem Try.load107 {h : AH} {b o : Nat} : aload Try.prog h 107 (.pointer (some ⟨b, o, none⟩)) = mkLoad o (some (false, 1)) h[b]? := aload_eq Try.tyc107
theorem Try.loadF107 {h : AH} {c : Array Value} {n : Nat} : aload Try.prog h 107 (fp c n) = mkLoadF c n (some (false, 1)) := aload_fp Try.tyc107
theorem Try.store107 {h : AH} {b o : Nat} {v : Value} : astore Try.prog h 107 (.pointer (some ⟨b, o, none⟩)) v = mkStore h b o v (some (false, 1)) h[b]? := astore_eq' Try.tyc107
theorem Try.some107 : (tyc Try.prog 107).isSome = true := by rw [Try.tyc107]; rfl
theorem Try.tyc108 : tyc Try.prog 108 = some (false, 1) := by kernel_rfl
theorem Try.load108 {h : AH} {b o : Nat} : aload Try.prog h 108 (.pointer (some ⟨b, o, none⟩)) = mkLoad o (some (false, 1)) h[b]? := aload_eq Try.tyc108
theorem Try.loadF108 {h : AH} {c : Array Value} {n : Nat} : aload Try.prog h 108 (fp c n) = mkLoadF c n (some (false, 1)) := aload_fp Try.tyc108
theorem Try.store108 {h : AH} {b o : Nat} {v : Value} : astore Try.prog h 108 (.pointer (some ⟨b, o, none⟩)) v = mkStore h b o v (some (false, 1)) h[b]? := astore_eq' Try.tyc108
theorem Try.some108 : (tyc Try.prog 108).isSome = true := by rw [Try.tyc108]; rfl
theorem Try.tyc109 : tyc Try.prog 109 = some (false, 1) := by kernel_rfl
theorem Try.load109 {h : AH} {b o : Nat} : aload Try.prog h 109 (.pointer (some ⟨b, o, none⟩)) = mkLoad o (some (false, 1)) h[b]? := aload_eq Try.tyc109
theorem Try.loadF109 {h : AH} {c : Array Value} {n : Nat} : aload Try.prog h 109 (fp c n) = mkLoadF c n (some (false, 1)) := aload_fp Try.tyc109
theorem Try.store109 {h : AH} {b o : Nat} {v : Value} : astore Try.prog h 109 (.pointer (some ⟨b, o, none⟩)) v = mkStore h b o v (some (false, 1)) h[b]? := astore_eq' Try.tyc109
theorem Try.some109 : (tyc Try.prog 109).isSome = true := by rw [Try.tyc109]; rfl
theorem Try.tyc110 : tyc Try.prog 110 = some (false, 1) := by kernel_rfl
theorem Try.load110 {h : AH} {b o : Nat} : aload Try.prog h 110 (.pointer (some ⟨b, o, none⟩)) = mkLoad o (some (false, 1)) h[b]? := aload_eq Try.tyc110
theorem Try.loadF110 {h : AH} {c : Array Value} {n : Nat} : aload Try.prog h 110 (fp c n) = mkLoadF c n (some (false, 1)) := aload_fp Try.tyc110
theorem Try.store110 {h : AH} {b o : Nat} {v : Value} : astore Try.prog h 110 (.pointer (some ⟨b, o, none⟩)) v = mkStore h b o v (some (false, 1)) h[b]? := astore_eq' Try.tyc110
theorem Try.some110 : (tyc Try.prog 110).isSome = true := by rw [Try.tyc110]; rfl
theorem Try.tyc111 : tyc Try.prog 111 = some (false, 1) := by kernel_rfl
theorem Try.load111 {h : AH} {b o : Nat} : aload Try.prog h 111 (.pointer (some ⟨b, o, none⟩)) = mkLoad o (some (false, 1)) h[b]? := aload_eq Try.tyc111
theorem Try.loadF111 {h : AH} {c : Array Value} {n : Nat} : aload Try.prog h 111 (fp c n) = mkLoadF c n (some (false, 1)) := aload_fp Try.tyc111
theorem Try.store111 {h : AH} {b o : Nat} {v : Value} : astore Try.prog h 111 (.pointer (some ⟨b, o, none⟩)) v = mkStore h b o v (some (false, 1)) h[b]? := astore_eq' Try.tyc111
theorem Try.some111 : (tyc Try.prog 111).isSome = true := by rw [Try.tyc111]; rfl
theorem Try.tyc112 : tyc Try.prog 112 = some (false, 1) := by kernel_rfl
theorem Try.load112 {h : AH} {b o : Nat} : aload Try.prog h 112 (.pointer (some ⟨b, o, none⟩)) = mkLoad o (some (false, 1)) h[b]? := aload_eq Try.tyc112
theorem Try.loadF112 {h : AH} {c : Array Value} {n : Nat} : aload Try.prog h 112 (fp c n) = mkLoadF c n (some (false, 1)) := aload_fp Try.tyc112
theorem Try.store112 {h : AH} {b o : Nat} {v : Value} : astore Try.prog h 112 (.pointer (some ⟨b, o, none⟩)) v = mkStore h b o v (some (false, 1)) h[b]? := astore_eq' Try.tyc112
theorem Try.some112 : (tyc Try.prog 112).isSome = true := by rw [Try.tyc112]; rfl
theorem Try.tyc113 : tyc Try.prog 113 = some (false, 1) := by kernel_rfl
theorem Try.load113 {h : AH} {b o : Nat} : aload Try.prog h 113 (.pointer (some ⟨b, o, none⟩)) = mkLoad o (some (false, 1)) h[b]? := aload_eq Try.tyc113
theorem Try.loadF113 {h : AH} {c : Array Value} {n : Nat} : aload Try.prog h 113 (fp c n) = mkLoadF c n (some (false, 1)) := aload_fp Try.tyc113
theorem Try.store113 {h : AH} {b o : Nat} {v : Value} : astore Try.prog h 113 (.pointer (some ⟨b, o, none⟩)) v = mkStore h b o v (some (false, 1)) h[b]? := astore_eq' Try.tyc113
theorem Try.some113 : (tyc Try.prog 113).isSome = true := by rw [Try.tyc113]; rfl
theorem Try.tyc114 : tyc Try.prog 114 = some (false, 1) := by kernel_rfl
theorem Try.load114 {h : AH} {b o : Nat} : aload Try.prog h 114 (.pointer (some ⟨b, o, none⟩)) = mkLoad o (some (false, 1)) h[b]? := aload_eq Try.tyc114
theorem Try.loadF114 {h : AH} {c : Array Value} {n : Nat} : aload Try.prog h 114 (fp c n) = mkLoadF c n (some (false, 1)) := aload_fp Try.tyc114
theorem Try.store114 {h : AH} {b o : Nat} {v : Value} : astore Try.prog h 114 (.pointer (some ⟨b, o, none⟩)) v = mkStore h b o v (some (false, 1)) h[b]? := astore_eq' Try.tyc114
theorem Try.some114 : (tyc Try.prog 114).isSome = true := by rw [Try.tyc114]; rfl
theorem Try.tyc115 : tyc Try.prog 115 = some (false, 1) := by kernel_rfl
theorem Try.load115 {h : AH} {b o : Nat} : aload Try.prog h 115 (.pointer (some ⟨b, o, none⟩)) = mkLoad o (some (false, 1)) h[b]? := aload_eq Try.tyc115
theorem Try.loadF115 {h : AH} {c : Array Value} {n : Nat} : aload Try.prog h 115 (fp c n) = mkLoadF c n (some (false, 1)) := aload_fp Try.tyc115
theorem Try.store115 {h : AH} {b o : Nat} {v : Value} : astore Try.prog h 115 (.pointer (some ⟨b, o, none⟩)) v = mkStore h b o v (some (false, 1)) h[b]? := astore_eq' Try.tyc115
theorem Try.some115 : (tyc Try.prog 115).isSome = true := by rw [Try.tyc115]; rfl
theorem Try.tyc116 : tyc Try.prog 116 = some (false, 1) := by kernel_rfl
theorem Try.load116 {h : AH} {b o : Nat} : aload Try.prog h 116 (.pointer (some ⟨b, o, none⟩)) = mkLoad o (some (false, 1)) h[b]? := aload_eq Try.tyc116
theorem Try.loadF116 {h : AH} {c : Array Value} {n : Nat} : aload Try.prog h 116 (fp c n) = mkLoadF c n (some (false, 1)) := aload_fp Try.tyc116
theorem Try.store116 {h : AH} {b o : Nat} {v : Value} : astore Try.prog h 116 (.pointer (some ⟨b, o, none⟩)) v = mkStore h b o v (some (false, 1)) h[b]? := astore_eq' Try.tyc116
theorem Try.some116 : (tyc Try.prog 116).isSome = true := by rw [Try.tyc116]; rfl
theorem Try.tyc117 : tyc Try.prog 117 = some (false, 1) := by kernel_rfl
theorem Try.load117 {h : AH} {b o : Nat} : aload Try.prog h 117 (.pointer (some ⟨b, o, none⟩)) = mkLoad o (some (false, 1)) h[b]? := aload_eq Try.tyc117
theorem Try.loadF117 {h : AH} {c : Array Value} {n : Nat} : aload Try.prog h 117 (fp c n) = mkLoadF c n (some (false, 1)) := aload_fp Try.tyc117
theorem Try.store117 {h : AH} {b o : Nat} {v : Value} : astore Try.prog h 117 (.pointer (some ⟨b, o, none⟩)) v = mkStore h b o v (some (false, 1)) h[b]? := astore_eq' Try.tyc117
theorem Try.some117 : (tyc Try.prog 117).isSome = true := by rw [Try.tyc117]; rfl
theorem Try.tyc118 : tyc Try.prog 118 = some (false, 1) := by kernel_rfl
theorem Try.load118 {h : AH} {b o : Nat} : aload Try.prog h 118 (.pointer (some ⟨b, o, none⟩)) = mkLoad o (some (false, 1)) h[b]? := aload_eq Try.tyc118
theorem Try.loadF118 {h : AH} {c : Array Value} {n : Nat} : aload Try.prog h 118 (fp c n) = mkLoadF c n (some (false, 1)) := aload_fp Try.tyc118
theorem Try.store118 {h : AH} {b o : Nat} {v : Value} : astore Try.prog h 118 (.pointer (some ⟨b, o, none⟩)) v = mkStore h b o v (some (false, 1)) h[b]? := astore_eq' Try.tyc118
theorem Try.some118 : (tyc Try.prog 118).isSome = true := by rw [Try.tyc118]; rfl
theorem Try.tyc119 : tyc Try.prog 119 = some (false, 1) := by kernel_rfl
theorem Try.load119 {h : AH} {b o : Nat} : aload Try.prog h 119 (.pointer (some ⟨b, o, none⟩)) = mkLoad o (some (false, 1)) h[b]? := aload_eq Try.tyc119
theorem Try.loadF119 {h : AH} {c : Array Value} {n : Nat} : aload Try.prog h 119 (fp c n) = mkLoadF c n (some (false, 1)) := aload_fp Try.tyc119
theorem Try.store119 {h : AH} {b o : Nat} {v : Value} : astore Try.prog h 119 (.pointer (some ⟨b, o, none⟩)) v = mkStore h b o v (some (false, 1)) h[b]? := astore_eq' Try.tyc119
theorem Try.some119 : (tyc Try.prog 119).isSome = true := by rw [Try.tyc119]; rfl
theorem Try.tyc120 : tyc Try.prog 120 = some (false, 1) := by kernel_rfl
theorem Try.load120 {h : AH} {b o : Nat} : aload Try.prog h 120 (.pointer (some ⟨b, o, none⟩)) = mkLoad o (some (false, 1)) h[b]? := aload_eq Try.tyc120
theorem Try.loadF120 {h : AH} {c : Array Value} {n : Nat} : aload Try.prog h 120 (fp c n) = mkLoadF c n (some (false, 1)) := aload_fp Try.tyc120
theorem Try.store120 {h : AH} {b o : Nat} {v : Value} : astore Try.prog h 120 (.pointer (some ⟨b, o, none⟩)) v = mkStore h b o v (some (false, 1)) h[b]? := astore_eq' Try.tyc120
theorem Try.some120 : (tyc Try.prog 120).isSome = true := by rw [Try.tyc120]; rfl
theorem Try.tyc121 : tyc Try.prog 121 = some (false, 1) := by kernel_rfl
theorem Try.load121 {h : AH} {b o : Nat} : aload Try.prog h 121 (.pointer (some ⟨b, o, none⟩)) = mkLoad o (some (false, 1)) h[b]? := aload_eq Try.tyc121
theorem Try.loadF121 {h : AH} {c : Array Value} {n : Nat} : aload Try.prog h 121 (fp c n) = mkLoadF c n (some (false, 1)) := aload_fp Try.tyc121
theorem Try.store121 {h : AH} {b o : Nat} {v : Value} : astore Try.prog h 121 (.pointer (some ⟨b, o, none⟩)) v = mkStore h b o v (some (false, 1)) h[b]? := astore_eq' Try.tyc121
theorem Try.some121 : (tyc Try.prog 121).isSome = true := by rw [Try.tyc121]; rfl
theorem Try.tyc122 : tyc Try.prog 122 = some (true, 4) := by kernel_rfl
theorem Try.load122 {h : AH} {b o : Nat} : aload Try.prog h 122 (.pointer (some ⟨b, o, none⟩)) = mkLoad o (some (true, 4)) h[b]? := aload_eq Try.tyc122
theorem Try.loadF122 {h : AH} {c : Array Value} {n : Nat} : aload Try.prog h 122 (fp c n) = mkLoadF c n (some (true, 4)) := aload_fp Try.tyc122
theorem Try.store122 {h : AH} {b o : Nat} {v : Value} : astore Try.prog h 122 (.pointer (some ⟨b, o, none⟩)) v = mkStore h b o v (some (true, 4)) h[b]? := astore_eq' Try.tyc122
theorem Try.some122 : (tyc Try.prog 122).isSome = true := by rw [Try.tyc122]; rfl
theorem Try.tyc123 : tyc Try.prog 123 = some (true, 4) := by kernel_rfl
theorem Try.load123 {h : AH} {b o : Nat} : aload Try.prog h 123 (.pointer (some ⟨b, o, none⟩)) = mkLoad o (some (true, 4)) h[b]? := aload_eq Try.tyc123
theorem Try.loadF123 {h : AH} {c : Array Value} {n : Nat} : aload Try.prog h 123 (fp c n) = mkLoadF c n (some (true, 4)) := aload_fp Try.tyc123
theorem Try.store123 {h : AH} {b o : Nat} {v : Value} : astore Try.prog h 123 (.pointer (some ⟨b, o, none⟩)) v = mkStore h b o v (some (true, 4)) h[b]? := astore_eq' Try.tyc123
theorem Try.some123 : (tyc Try.prog 123).isSome = true := by rw [Try.tyc123]; rfl
theorem Try.tyc124 : tyc Try.prog 124 = some (true, 0) := by kernel_rfl
theorem Try.load124 {h : AH} {b o : Nat} : aload Try.prog h 124 (.pointer (some ⟨b, o, none⟩)) = mkLoad o (some (true, 0)) h[b]? := aload_eq Try.tyc124
theorem Try.loadF124 {h : AH} {c : Array Value} {n : Nat} : aload Try.prog h 124 (fp c n) = mkLoadF c n (some (true, 0)) := aload_fp Try.tyc124
theorem Try.store124 {h : AH} {b o : Nat} {v : Value} : astore Try.prog h 124 (.pointer (some ⟨b, o, none⟩)) v = mkStore h b o v (some (true, 0)) h[b]? := astore_eq' Try.tyc124
theorem Try.some124 : (tyc Try.prog 124).isSome = true := by rw [Try.tyc124]; rfl
theorem Try.tyc125 : tyc Try.prog 125 = some (true, 0) := by kernel_rfl
theorem Try.load125 {h : AH} {b o : Nat} : aload Try.prog h 125 (.pointer (some ⟨b, o, none⟩)) = mkLoad o (some (true, 0)) h[b]? := aload_eq Try.tyc125
theorem Try.loadF125 {h : AH} {c : Array Value} {n : Nat} : aload Try.prog h 125 (fp c n) = mkLoadF c n (some (true, 0)) := aload_fp Try.tyc125
theorem Try.store125 {h : AH} {b o : Nat} {v : Value} : astore Try.prog h 125 (.pointer (some ⟨b, o, none⟩)) v = mkStore h b o v (some (true, 0)) h[b]? := astore_eq' Try.tyc125
theorem Try.some125 : (tyc Try.prog 125).isSome = true := by rw [Try.tyc125]; rfl
theorem Try.tyc126 : tyc Try.prog 126 = some (true, 0) := by kernel_rfl
theorem Try.load126 {h : AH} {b o : Nat} : aload Try.prog h 126 (.pointer (some ⟨b, o, none⟩)) = mkLoad o (some (true, 0)) h[b]? := aload_eq Try.tyc126
theorem Try.loadF126 {h : AH} {c : Array Value} {n : Nat} : aload Try.prog h 126 (fp c n) = mkLoadF c n (some (true, 0)) := aload_fp Try.tyc126
theorem Try.store126 {h : AH} {b o : Nat} {v : Value} : astore Try.prog h 126 (.pointer (some ⟨b, o, none⟩)) v = mkStore h b o v (some (true, 0)) h[b]? := astore_eq' Try.tyc126
theorem Try.some126 : (tyc Try.prog 126).isSome = true := by rw [Try.tyc126]; rfl
theorem Try.tyc127 : tyc Try.prog 127 = some (false, 1) := by kernel_rfl
theorem Try.load127 {h : AH} {b o : Nat} : aload Try.prog h 127 (.pointer (some ⟨b, o, none⟩)) = mkLoad o (some (false, 1)) h[b]? := aload_eq Try.tyc127
theorem Try.loadF127 {h : AH} {c : Array Value} {n : Nat} : aload Try.prog h 127 (fp c n) = mkLoadF c n (some (false, 1)) := aload_fp Try.tyc127
theorem Try.store127 {h : AH} {b o : Nat} {v : Value} : astore Try.prog h 127 (.pointer (some ⟨b, o, none⟩)) v = mkStore h b o v (some (false, 1)) h[b]? := astore_eq' Try.tyc127
theorem Try.some127 : (tyc Try.prog 127).isSome = true := by rw [Try.tyc127]; rfl
theorem Try.tyc128 : tyc Try.prog 128 = some (false, 1) := by kernel_rfl
theorem Try.load128 {h : AH} {b o : Nat} : aload Try.prog h 128 (.pointer (some ⟨b, o, none⟩)) = mkLoad o (some (false, 1)) h[b]? := aload_eq Try.tyc128
theorem Try.loadF128 {h : AH} {c : Array Value} {n : Nat} : aload Try.prog h 128 (fp c n) = mkLoadF c n (some (false, 1)) := aload_fp Try.tyc128
theorem Try.store128 {h : AH} {b o : Nat} {v : Value} : astore Try.prog h 128 (.pointer (some ⟨b, o, none⟩)) v = mkStore h b o v (some (false, 1)) h[b]? := astore_eq' Try.tyc128
theorem Try.some128 : (tyc Try.prog 128).isSome = true := by rw [Try.tyc128]; rfl
theorem Try.tyc129 : tyc Try.prog 129 = some (false, 1) := by kernel_rfl
theorem Try.load129 {h : AH} {b o : Nat} : aload Try.prog h 129 (.pointer (some ⟨b, o, none⟩)) = mkLoad o (some (false, 1)) h[b]? := aload_eq Try.tyc129
theorem Try.loadF129 {h : AH} {c : Array Value} {n : Nat} : aload Try.prog h 129 (fp c n) = mkLoadF c n (some (false, 1)) := aload_fp Try.tyc129
theorem Try.store129 {h : AH} {b o : Nat} {v : Value} : astore Try.prog h 129 (.pointer (some ⟨b, o, none⟩)) v = mkStore h b o v (some (false, 1)) h[b]? := astore_eq' Try.tyc129
theorem Try.some129 : (tyc Try.prog 129).isSome = true := by rw [Try.tyc129]; rfl
theorem Try.tyc130 : tyc Try.prog 130 = some (false, 1) := by kernel_rfl
theorem Try.load130 {h : AH} {b o : Nat} : aload Try.prog h 130 (.pointer (some ⟨b, o, none⟩)) = mkLoad o (some (false, 1)) h[b]? := aload_eq Try.tyc130
theorem Try.loadF130 {h : AH} {c : Array Value} {n : Nat} : aload Try.prog h 130 (fp c n) = mkLoadF c n (some (false, 1)) := aload_fp Try.tyc130
theorem Try.store130 {h : AH} {b o : Nat} {v : Value} : astore Try.prog h 130 (.pointer (some ⟨b, o, none⟩)) v = mkStore h b o v (some (false, 1)) h[b]? := astore_eq' Try.tyc130
theorem Try.some130 : (tyc Try.prog 130).isSome = true := by rw [Try.tyc130]; rfl
theorem Try.tyc131 : tyc Try.prog 131 = some (false, 1) := by kernel_rfl
theorem Try.load131 {h : AH} {b o : Nat} : aload Try.prog h 131 (.pointer (some ⟨b, o, none⟩)) = mkLoad o (some (false, 1)) h[b]? := aload_eq Try.tyc131
theorem Try.loadF131 {h : AH} {c : Array Value} {n : Nat} : aload Try.prog h 131 (fp c n) = mkLoadF c n (some (false, 1)) := aload_fp Try.tyc131
theorem Try.store131 {h : AH} {b o : Nat} {v : Value} : astore Try.prog h 131 (.pointer (some ⟨b, o, none⟩)) v = mkStore h b o v (some (false, 1)) h[b]? := astore_eq' Try.tyc131
theorem Try.some131 : (tyc Try.prog 131).isSome = true := by rw [Try.tyc131]; rfl
theorem Try.tyc132 : tyc Try.prog 132 = some (false, 1) := by kernel_rfl
theorem Try.load132 {h : AH} {b o : Nat} : aload Try.prog h 132 (.pointer (some ⟨b, o, none⟩)) = mkLoad o (some (false, 1)) h[b]? := aload_eq Try.tyc132
theorem Try.loadF132 {h : AH} {c : Array Value} {n : Nat} : aload Try.prog h 132 (fp c n) = mkLoadF c n (some (false, 1)) := aload_fp Try.tyc132
theorem Try.store132 {h : AH} {b o : Nat} {v : Value} : astore Try.prog h 132 (.pointer (some ⟨b, o, none⟩)) v = mkStore h b o v (some (false, 1)) h[b]? := astore_eq' Try.tyc132
theorem Try.some132 : (tyc Try.prog 132).isSome = true := by rw [Try.tyc132]; rfl
theorem Try.tyc133 : tyc Try.prog 133 = some (false, 1) := by kernel_rfl
theorem Try.load133 {h : AH} {b o : Nat} : aload Try.prog h 133 (.pointer (some ⟨b, o, none⟩)) = mkLoad o (some (false, 1)) h[b]? := aload_eq Try.tyc133
theorem Try.loadF133 {h : AH} {c : Array Value} {n : Nat} : aload Try.prog h 133 (fp c n) = mkLoadF c n (some (false, 1)) := aload_fp Try.tyc133
theorem Try.store133 {h : AH} {b o : Nat} {v : Value} : astore Try.prog h 133 (.pointer (some ⟨b, o, none⟩)) v = mkStore h b o v (some (false, 1)) h[b]? := astore_eq' Try.tyc133
theorem Try.some133 : (tyc Try.prog 133).isSome = true := by rw [Try.tyc133]; rfl
theorem Try.tyc134 : tyc Try.prog 134 = some (true, 11) := by kernel_rfl
theorem Try.load134 {h : AH} {b o : Nat} : aload Try.prog h 134 (.pointer (some ⟨b, o, none⟩)) = mkLoad o (some (true, 11)) h[b]? := aload_eq Try.tyc134
theorem Try.loadF134 {h : AH} {c : Array Value} {n : Nat} : aload Try.prog h 134 (fp c n) = mkLoadF c n (some (true, 11)) := aload_fp Try.tyc134
theorem Try.store134 {h : AH} {b o : Nat} {v : Value} : astore Try.prog h 134 (.pointer (some ⟨b, o, none⟩)) v = mkStore h b o v (some (true, 11)) h[b]? := astore_eq' Try.tyc134
theorem Try.some134 : (tyc Try.prog 134).isSome = true := by rw [Try.tyc134]; rfl
theorem Try.tyc135 : tyc Try.prog 135 = some (true, 11) := by kernel_rfl
theorem Try.load135 {h : AH} {b o : Nat} : aload Try.prog h 135 (.pointer (some ⟨b, o, none⟩)) = mkLoad o (some (true, 11)) h[b]? := aload_eq Try.tyc135
theorem Try.loadF135 {h : AH} {c : Array Value} {n : Nat} : aload Try.prog h 135 (fp c n) = mkLoadF c n (some (true, 11)) := aload_fp Try.tyc135
theorem Try.store135 {h : AH} {b o : Nat} {v : Value} : astore Try.prog h 135 (.pointer (some ⟨b, o, none⟩)) v = mkStore h b o v (some (true, 11)) h[b]? := astore_eq' Try.tyc135
theorem Try.some135 : (tyc Try.prog 135).isSome = true := by rw [Try.tyc135]; rfl
theorem Try.tyc136 : tyc Try.prog 136 = some (false, 1) := by kernel_rfl
theorem Try.load136 {h : AH} {b o : Nat} : aload Try.prog h 136 (.pointer (some ⟨b, o, none⟩)) = mkLoad o (some (false, 1)) h[b]? := aload_eq Try.tyc136
theorem Try.loadF136 {h : AH} {c : Array Value} {n : Nat} : aload Try.prog h 136 (fp c n) = mkLoadF c n (some (false, 1)) := aload_fp Try.tyc136
theorem Try.store136 {h : AH} {b o : Nat} {v : Value} : astore Try.prog h 136 (.pointer (some ⟨b, o, none⟩)) v = mkStore h b o v (some (false, 1)) h[b]? := astore_eq' Try.tyc136
theorem Try.some136 : (tyc Try.prog 136).isSome = true := by rw [Try.tyc136]; rfl
theorem Try.fld7_0 : fld Try.prog 7 0 = some (0, false, 1) := by kernel_rfl
theorem Try.fieldAddr7_0 {b o : Nat} : afieldAddr Try.prog 7 (.pointer (some ⟨b, o, none⟩)) 0 = mkFieldAddr b o (some (0, false, 1)) := afieldAddr_eq' Try.fld7_0
theorem Try.fieldAddrF7_0 {c : Array Value} {n : Nat} : afieldAddr Try.prog 7 (fp c n) 0 = mkFieldAddrF c n (some (0, false, 1)) := afieldAddr_fp Try.fld7_0
theorem Try.field7_0 {c : Array Value} : afield Try.prog 7 (.agg c) 0 = mkField c (some (0, false, 1)) := afield_eq' Try.fld7_0
theorem Try.fld7_1 : fld Try.prog 7 1 = some (1, false, 1) := by kernel_rfl
theorem Try.fieldAddr7_1 {b o : Nat} : afieldAddr Try.prog 7 (.pointer (some ⟨b, o, none⟩)) 1 = mkFieldAddr b o (some (1, false, 1)) := afieldAddr_eq' Try.fld7_1
theorem Try.fieldAddrF7_1 {c : Array Value} {n : Nat} : afieldAddr Try.prog 7 (fp c n) 1 = mkFieldAddrF c n (some (1, false, 1)) := afieldAddr_fp Try.fld7_1
theorem Try.field7_1 {c : Array Value} : afield Try.prog 7 (.agg c) 1 = mkField c (some (1, false, 1)) := afield_eq' Try.fld7_1
theorem Try.fld7_2 : fld Try.prog 7 2 = some (2, false, 1) := by kernel_rfl
theorem Try.fieldAddr7_2 {b o : Nat} : afieldAddr Try.prog 7 (.pointer (some ⟨b, o, none⟩)) 2 = mkFieldAddr b o (some (2, false, 1)) := afieldAddr_eq' Try.fld7_2
theorem Try.fieldAddrF7_2 {c : Array Value} {n : Nat} : afieldAddr Try.prog 7 (fp c n) 2 = mkFieldAddrF c n (some (2, false, 1)) := afieldAddr_fp Try.fld7_2
theorem Try.field7_2 {c : Array Value} : afield Try.prog 7 (.agg c) 2 = mkField c (some (2, false, 1)) := afield_eq' Try.fld7_2
theorem Try.fld7_3 : fld Try.prog 7 3 = some (3, false, 1) := by kernel_rfl
theorem Try.fieldAddr7_3 {b o : Nat} : afieldAddr Try.prog 7 (.pointer (some ⟨b, o, none⟩)) 3 = mkFieldAddr b o (some (3, false, 1)) := afieldAddr_eq' Try.fld7_3
theorem Try.fieldAddrF7_3 {c : Array Value} {n : Nat} : afieldAddr Try.prog 7 (fp c n) 3 = mkFieldAddrF c n (some (3, false, 1)) := afieldAddr_fp Try.fld7_3
theorem Try.field7_3 {c : Array Value} : afield Try.prog 7 (.agg c) 3 = mkField c (some (3, false, 1)) := afield_eq' Try.fld7_3
theorem Try.fld8_0 : fld Try.prog 8 0 = some (0, false, 1) := by kernel_rfl
theorem Try.fieldAddr8_0 {b o : Nat} : afieldAddr Try.prog 8 (.pointer (some ⟨b, o, none⟩)) 0 = mkFieldAddr b o (some (0, false, 1)) := afieldAddr_eq' Try.fld8_0
theorem Try.fieldAddrF8_0 {c : Array Value} {n : Nat} : afieldAddr Try.prog 8 (fp c n) 0 = mkFieldAddrF c n (some (0, false, 1)) := afieldAddr_fp Try.fld8_0
theorem Try.field8_0 {c : Array Value} : afield Try.prog 8 (.agg c) 0 = mkField c (some (0, false, 1)) := afield_eq' Try.fld8_0
theorem Try.fld8_1 : fld Try.prog 8 1 = some (1, false, 1) := by kernel_rfl
theorem Try.fieldAddr8_1 {b o : Nat} : afieldAddr Try.prog 8 (.pointer (some ⟨b, o, none⟩)) 1 = mkFieldAddr b o (some (1, false, 1)) := afieldAddr_eq' Try.fld8_1
theorem Try.fieldAddrF8_1 {c : Array Value} {n : Nat} : afieldAddr Try.prog 8 (fp c n) 1 = mkFieldAddrF c n (some (1, false, 1)) := afieldAddr_fp Try.fld8_1
theorem Try.field8_1 {c : Array Value} : afield Try.prog 8 (.agg c) 1 = mkField c (some (1, false, 1)) := afield_eq' Try.fld8_1
theorem Try.fld8_2 : fld Try.prog 8 2 = some (2, false, 1) := by kernel_rfl
theorem Try.fieldAddr8_2 {b o : Nat} : afieldAddr Try.prog 8 (.pointer (some ⟨b, o, none⟩)) 2 = mkFieldAddr b o (some (2, false, 1)) := afieldAddr_eq' Try.fld8_2
theorem Try.fieldAddrF8_2 {c : Array Value} {n : Nat} : afieldAddr Try.prog 8 (fp c n) 2 = mkFieldAddrF c n (some (2, false, 1)) := afieldAddr_fp Try.fld8_2
theorem Try.field8_2 {c : Array Value} : afield Try.prog 8 (.agg c) 2 = mkField c (some (2, false, 1)) := afield_eq' Try.fld8_2
theorem Try.fld8_3 : fld Try.prog 8 3 = some (3, false, 1) := by kernel_rfl
theorem Try.fieldAddr8_3 {b o : Nat} : afieldAddr Try.prog 8 (.pointer (some ⟨b, o, none⟩)) 3 = mkFieldAddr b o (some (3, false, 1)) := afieldAddr_eq' Try.fld8_3
theorem Try.fieldAddrF8_3 {c : Array Value} {n : Nat} : afieldAddr Try.prog 8 (fp c n) 3 = mkFieldAddrF c n (some (3, false, 1)) := afieldAddr_fp Try.fld8_3
theorem Try.field8_3 {c : Array Value} : afield Try.prog 8 (.agg c) 3 = mkField c (some (3, false, 1)) := afield_eq' Try.fld8_3
theorem Try.fld13_0 : fld Try.prog 13 0 = some (0, false, 1) := by kernel_rfl
theorem Try.fieldAddr13_0 {b o : Nat} : afieldAddr Try.prog 13 (.pointer (some ⟨b, o, none⟩)) 0 = mkFieldAddr b o (some (0, false, 1)) := afieldAddr_eq' Try.fld13_0
theorem Try.fieldAddrF13_0 {c : Array Value} {n : Nat} : afieldAddr Try.prog 13 (fp c n) 0 = mkFieldAddrF c n (some (0, false, 1)) := afieldAddr_fp Try.fld13_0
theorem Try.field13_0 {c : Array Value} : afield Try.prog 13 (.agg c) 0 = mkField c (some (0, false, 1)) := afield_eq' Try.fld13_0
theorem Try.fld13_1 : fld Try.prog 13 1 = some (1, false, 1) := by kernel_rfl
theorem Try.fieldAddr13_1 {b o : Nat} : afieldAddr Try.prog 13 (.pointer (some ⟨b, o, none⟩)) 1 = mkFieldAddr b o (some (1, false, 1)) := afieldAddr_eq' Try.fld13_1
theorem Try.fieldAddrF13_1 {c : Array Value} {n : Nat} : afieldAddr Try.prog 13 (fp c n) 1 = mkFieldAddrF c n (some (1, false, 1)) := afieldAddr_fp Try.fld13_1
theorem Try.field13_1 {c : Array Value} : afield Try.prog 13 (.agg c) 1 = mkField c (some (1, false, 1)) := afield_eq' Try.fld13_1
theorem Try.fld14_0 : fld Try.prog 14 0 = some (0, false, 1) := by kernel_rfl
theorem Try.fieldAddr14_0 {b o : Nat} : afieldAddr Try.prog 14 (.pointer (some ⟨b, o, none⟩)) 0 = mkFieldAddr b o (some (0, false, 1)) := afieldAddr_eq' Try.fld14_0
theorem Try.fieldAddrF14_0 {c : Array Value} {n : Nat} : afieldAddr Try.prog 14 (fp c n) 0 = mkFieldAddrF c n (some (0, false, 1)) := afieldAddr_fp Try.fld14_0
theorem Try.field14_0 {c : Array Value} : afield Try.prog 14 (.agg c) 0 = mkField c (some (0, false, 1)) := afield_eq' Try.fld14_0
theorem Try.fld14_1 : fld Try.prog 14 1 = some (1, false, 1) := by kernel_rfl
theorem Try.fieldAddr14_1 {b o : Nat} : afieldAddr Try.prog 14 (.pointer (some ⟨b, o, none⟩)) 1 = mkFieldAddr b o (some (1, false, 1)) := afieldAddr_eq' Try.fld14_1
theorem Try.fieldAddrF14_1 {c : Array Value} {n : Nat} : afieldAddr Try.prog 14 (fp c n) 1 = mkFieldAddrF c n (some (1, false, 1)) := afieldAddr_fp Try.fld14_1
theorem Try.field14_1 {c : Array Value} : afield Try.prog 14 (.agg c) 1 = mkField c (some (1, false, 1)) := afield_eq' Try.fld14_1
theorem Try.fld18_0 : fld Try.prog 18 0 = some (0, false, 1) := by kernel_rfl
theorem Try.fieldAddr18_0 {b o : Nat} : afieldAddr Try.prog 18 (.pointer (some ⟨b, o, none⟩)) 0 = mkFieldAddr b o (some (0, false, 1)) := afieldAddr_eq' Try.fld18_0
theorem Try.fieldAddrF18_0 {c : Array Value} {n : Nat} : afieldAddr Try.prog 18 (fp c n) 0 = mkFieldAddrF c n (some (0, false, 1)) := afieldAddr_fp Try.fld18_0
theorem Try.field18_0 {c : Array Value} : afield Try.prog 18 (.agg c) 0 = mkField c (some (0, false, 1)) := afield_eq' Try.fld18_0
theorem Try.fld19_0 : fld Try.prog 19 0 = some (0, false, 1) := by kernel_rfl
theorem Try.fieldAddr19_0 {b o : Nat} : afieldAddr Try.prog 19 (.pointer (some ⟨b, o, none⟩)) 0 = mkFieldAddr b o (some (0, false, 1)) := afieldAddr_eq' Try.fld19_0
theorem Try.fieldAddrF19_0 {c : Array Value} {n : Nat} : afieldAddr Try.prog 19 (fp c n) 0 = mkFieldAddrF c n (some (0, false, 1)) := afieldAddr_fp Try.fld19_0
theorem Try.field19_0 {c : Array Value} : afield Try.prog 19 (.agg c) 0 = mkField c (some (0, false, 1)) := afield_eq' Try.fld19_0
theorem Try.fld27_0 : fld Try.prog 27 0 = some (0, false, 1) := by kernel_rfl
theorem Try.fieldAddr27_0 {b o : Nat} : afieldAddr Try.prog 27 (.pointer (some ⟨b, o, none⟩)) 0 = mkFieldAddr b o (some (0, false, 1)) := afieldAddr_eq' Try.fld27_0
theorem Try.fieldAddrF27_0 {c : Array Value} {n : Nat} : afieldAddr Try.prog 27 (fp c n) 0 = mkFieldAddrF c n (some (0, false, 1)) := afieldAddr_fp Try.fld27_0
theorem Try.field27_0 {c : Array Value} : afield Try.prog 27 (.agg c) 0 = mkField c (some (0, false, 1)) := afield_eq' Try.fld27_0
theorem Try.fld27_1 : fld Try.prog 27 1 = some (1, false, 1) := by kernel_rfl
theorem Try.fieldAddr27_1 {b o : Nat} : afieldAddr Try.prog 27 (.pointer (some ⟨b, o, none⟩)) 1 = mkFieldAddr b o (some (1, false, 1)) := afieldAddr_eq' Try.fld27_1
theorem Try.fieldAddrF27_1 {c : Array Value} {n : Nat} : afieldAddr Try.prog 27 (fp c n) 1 = mkFieldAddrF c n (some (1, false, 1)) := afieldAddr_fp Try.fld27_1
theorem Try.field27_1 {c : Array Value} : afield Try.prog 27 (.agg c) 1 = mkField c (some (1, false, 1)) := afield_eq' Try.fld27_1
theorem Try.fld28_0 : fld Try.prog 28 0 = some (0, false, 1) := by kernel_rfl
theorem Try.fieldAddr28_0 {b o : Nat} : afieldAddr Try.prog 28 (.pointer (some ⟨b, o, none⟩)) 0 = mkFieldAddr b o (some (0, false, 1)) := afieldAddr_eq' Try.fld28_0
theorem Try.fieldAddrF28_0 {c : Array Value} {n : Nat} : afieldAddr Try.prog 28 (fp c n) 0 = mkFieldAddrF c n (some (0, false, 1)) := afieldAddr_fp Try.fld28_0
theorem Try.field28_0 {c : Array Value} : afield Try.prog 28 (.agg c) 0 = mkField c (some (0, false, 1)) := afield_eq' Try.fld28_0
theorem Try.fld28_1 : fld Try.prog 28 1 = some (1, false, 1) := by kernel_rfl
theorem Try.fieldAddr28_1 {b o : Nat} : afieldAddr Try.prog 28 (.pointer (some ⟨b, o, none⟩)) 1 = mkFieldAddr b o (some (1, false, 1)) := afieldAddr_eq' Try.fld28_1
theorem Try.fieldAddrF28_1 {c : Array Value} {n : Nat} : afieldAddr Try.prog 28 (fp c n) 1 = mkFieldAddrF c n (some (1, false, 1)) := afieldAddr_fp Try.fld28_1
theorem Try.field28_1 {c : Array Value} : afield Try.prog 28 (.agg c) 1 = mkField c (some (1, false, 1)) := afield_eq' Try.fld28_1
theorem Try.fld49_0 : fld Try.prog 49 0 = some (0, false, 1) := by kernel_rfl
theorem Try.fieldAddr49_0 {b o : Nat} : afieldAddr Try.prog 49 (.pointer (some ⟨b, o, none⟩)) 0 = mkFieldAddr b o (some (0, false, 1)) := afieldAddr_eq' Try.fld49_0
theorem Try.fieldAddrF49_0 {c : Array Value} {n : Nat} : afieldAddr Try.prog 49 (fp c n) 0 = mkFieldAddrF c n (some (0, false, 1)) := afieldAddr_fp Try.fld49_0
theorem Try.field49_0 {c : Array Value} : afield Try.prog 49 (.agg c) 0 = mkField c (some (0, false, 1)) := afield_eq' Try.fld49_0
theorem Try.fld49_1 : fld Try.prog 49 1 = some (1, false, 1) := by kernel_rfl
theorem Try.fieldAddr49_1 {b o : Nat} : afieldAddr Try.prog 49 (.pointer (some ⟨b, o, none⟩)) 1 = mkFieldAddr b o (some (1, false, 1)) := afieldAddr_eq' Try.fld49_1
theorem Try.fieldAddrF49_1 {c : Array Value} {n : Nat} : afieldAddr Try.prog 49 (fp c n) 1 = mkFieldAddrF c n (some (1, false, 1)) := afieldAddr_fp Try.fld49_1
theorem Try.field49_1 {c : Array Value} : afield Try.prog 49 (.agg c) 1 = mkField c (some (1, false, 1)) := afield_eq' Try.fld49_1
theorem Try.fld49_2 : fld Try.prog 49 2 = some (2, true, 20) := by kernel_rfl
theorem Try.fieldAddr49_2 {b o : Nat} : afieldAddr Try.prog 49 (.pointer (some ⟨b, o, none⟩)) 2 = mkFieldAddr b o (some (2, true, 20)) := afieldAddr_eq' Try.fld49_2
theorem Try.fieldAddrF49_2 {c : Array Value} {n : Nat} : afieldAddr Try.prog 49 (fp c n) 2 = mkFieldAddrF c n (some (2, true, 20)) := afieldAddr_fp Try.fld49_2
theorem Try.field49_2 {c : Array Value} : afield Try.prog 49 (.agg c) 2 = mkField c (some (2, true, 20)) := afield_eq' Try.fld49_2
theorem Try.fld49_3 : fld Try.prog 49 3 = some (22, true, 4) := by kernel_rfl
theorem Try.fieldAddr49_3 {b o : Nat} : afieldAddr Try.prog 49 (.pointer (some ⟨b, o, none⟩)) 3 = mkFieldAddr b o (some (22, true, 4)) := afieldAddr_eq' Try.fld49_3
theorem Try.fieldAddrF49_3 {c : Array Value} {n : Nat} : afieldAddr Try.prog 49 (fp c n) 3 = mkFieldAddrF c n (some (22, true, 4)) := afieldAddr_fp Try.fld49_3
theorem Try.field49_3 {c : Array Value} : afield Try.prog 49 (.agg c) 3 = mkField c (some (22, true, 4)) := afield_eq' Try.fld49_3
theorem Try.fld49_4 : fld Try.prog 49 4 = some (26, true, 4) := by kernel_rfl
theorem Try.fieldAddr49_4 {b o : Nat} : afieldAddr Try.prog 49 (.pointer (some ⟨b, o, none⟩)) 4 = mkFieldAddr b o (some (26, true, 4)) := afieldAddr_eq' Try.fld49_4
theorem Try.fieldAddrF49_4 {c : Array Value} {n : Nat} : afieldAddr Try.prog 49 (fp c n) 4 = mkFieldAddrF c n (some (26, true, 4)) := afieldAddr_fp Try.fld49_4
theorem Try.field49_4 {c : Array Value} : afield Try.prog 49 (.agg c) 4 = mkField c (some (26, true, 4)) := afield_eq' Try.fld49_4
theorem Try.fld49_5 : fld Try.prog 49 5 = some (30, false, 1) := by kernel_rfl
theorem Try.fieldAddr49_5 {b o : Nat} : afieldAddr Try.prog 49 (.pointer (some ⟨b, o, none⟩)) 5 = mkFieldAddr b o (some (30, false, 1)) := afieldAddr_eq' Try.fld49_5
theorem Try.fieldAddrF49_5 {c : Array Value} {n : Nat} : afieldAddr Try.prog 49 (fp c n) 5 = mkFieldAddrF c n (some (30, false, 1)) := afieldAddr_fp Try.fld49_5
theorem Try.field49_5 {c : Array Value} : afield Try.prog 49 (.agg c) 5 = mkField c (some (30, false, 1)) := afield_eq' Try.fld49_5
theorem Try.fld49_6 : fld Try.prog 49 6 = some (31, false, 1) := by kernel_rfl
theorem Try.fieldAddr49_6 {b o : Nat} : afieldAddr Try.prog 49 (.pointer (some ⟨b, o, none⟩)) 6 = mkFieldAddr b o (some (31, false, 1)) := afieldAddr_eq' Try.fld49_6
theorem Try.fieldAddrF49_6 {c : Array Value} {n : Nat} : afieldAddr Try.prog 49 (fp c n) 6 = mkFieldAddrF c n (some (31, false, 1)) := afieldAddr_fp Try.fld49_6
theorem Try.field49_6 {c : Array Value} : afield Try.prog 49 (.agg c) 6 = mkField c (some (31, false, 1)) := afield_eq' Try.fld49_6
theorem Try.fld50_0 : fld Try.prog 50 0 = some (0, false, 1) := by kernel_rfl
theorem Try.fieldAddr50_0 {b o : Nat} : afieldAddr Try.prog 50 (.pointer (some ⟨b, o, none⟩)) 0 = mkFieldAddr b o (some (0, false, 1)) := afieldAddr_eq' Try.fld50_0
theorem Try.fieldAddrF50_0 {c : Array Value} {n : Nat} : afieldAddr Try.prog 50 (fp c n) 0 = mkFieldAddrF c n (some (0, false, 1)) := afieldAddr_fp Try.fld50_0
theorem Try.field50_0 {c : Array Value} : afield Try.prog 50 (.agg c) 0 = mkField c (some (0, false, 1)) := afield_eq' Try.fld50_0
theorem Try.fld50_1 : fld Try.prog 50 1 = some (1, false, 1) := by kernel_rfl
theorem Try.fieldAddr50_1 {b o : Nat} : afieldAddr Try.prog 50 (.pointer (some ⟨b, o, none⟩)) 1 = mkFieldAddr b o (some (1, false, 1)) := afieldAddr_eq' Try.fld50_1
theorem Try.fieldAddrF50_1 {c : Array Value} {n : Nat} : afieldAddr Try.prog 50 (fp c n) 1 = mkFieldAddrF c n (some (1, false, 1)) := afieldAddr_fp Try.fld50_1
theorem Try.field50_1 {c : Array Value} : afield Try.prog 50 (.agg c) 1 = mkField c (some (1, false, 1)) := afield_eq' Try.fld50_1
theorem Try.fld50_2 : fld Try.prog 50 2 = some (2, true, 20) := by kernel_rfl
theorem Try.fieldAddr50_2 {b o : Nat} : afieldAddr Try.prog 50 (.pointer (some ⟨b, o, none⟩)) 2 = mkFieldAddr b o (some (2, true, 20)) := afieldAddr_eq' Try.fld50_2
theorem Try.fieldAddrF50_2 {c : Array Value} {n : Nat} : afieldAddr Try.prog 50 (fp c n) 2 = mkFieldAddrF c n (some (2, true, 20)) := afieldAddr_fp Try.fld50_2
theorem Try.field50_2 {c : Array Value} : afield Try.prog 50 (.agg c) 2 = mkField c (some (2, true, 20)) := afield_eq' Try.fld50_2
theorem Try.fld50_3 : fld Try.prog 50 3 = some (22, true, 4) := by kernel_rfl
theorem Try.fieldAddr50_3 {b o : Nat} : afieldAddr Try.prog 50 (.pointer (some ⟨b, o, none⟩)) 3 = mkFieldAddr b o (some (22, true, 4)) := afieldAddr_eq' Try.fld50_3
theorem Try.fieldAddrF50_3 {c : Array Value} {n : Nat} : afieldAddr Try.prog 50 (fp c n) 3 = mkFieldAddrF c n (some (22, true, 4)) := afieldAddr_fp Try.fld50_3
theorem Try.field50_3 {c : Array Value} : afield Try.prog 50 (.agg c) 3 = mkField c (some (22, true, 4)) := afield_eq' Try.fld50_3
theorem Try.fld50_4 : fld Try.prog 50 4 = some (26, true, 4) := by kernel_rfl
theorem Try.fieldAddr50_4 {b o : Nat} : afieldAddr Try.prog 50 (.pointer (some ⟨b, o, none⟩)) 4 = mkFieldAddr b o (some (26, true, 4)) := afieldAddr_eq' Try.fld50_4
theorem Try.fieldAddrF50_4 {c : Array Value} {n : Nat} : afieldAddr Try.prog 50 (fp c n) 4 = mkFieldAddrF c n (some (26, true, 4)) := afieldAddr_fp Try.fld50_4
theorem Try.field50_4 {c : Array Value} : afield Try.prog 50 (.agg c) 4 = mkField c (some (26, true, 4)) := afield_eq' Try.fld50_4
theorem Try.fld50_5 : fld Try.prog 50 5 = some (30, false, 1) := by kernel_rfl
theorem Try.fieldAddr50_5 {b o : Nat} : afieldAddr Try.prog 50 (.pointer (some ⟨b, o, none⟩)) 5 = mkFieldAddr b o (some (30, false, 1)) := afieldAddr_eq' Try.fld50_5
theorem Try.fieldAddrF50_5 {c : Array Value} {n : Nat} : afieldAddr Try.prog 50 (fp c n) 5 = mkFieldAddrF c n (some (30, false, 1)) := afieldAddr_fp Try.fld50_5
theorem Try.field50_5 {c : Array Value} : afield Try.prog 50 (.agg c) 5 = mkField c (some (30, false, 1)) := afield_eq' Try.fld50_5
theorem Try.fld50_6 : fld Try.prog 50 6 = some (31, false, 1) := by kernel_rfl
theorem Try.fieldAddr50_6 {b o : Nat} : afieldAddr Try.prog 50 (.pointer (some ⟨b, o, none⟩)) 6 = mkFieldAddr b o (some (31, false, 1)) := afieldAddr_eq' Try.fld50_6
theorem Try.fieldAddrF50_6 {c : Array Value} {n : Nat} : afieldAddr Try.prog 50 (fp c n) 6 = mkFieldAddrF c n (some (31, false, 1)) := afieldAddr_fp Try.fld50_6
theorem Try.field50_6 {c : Array Value} : afield Try.prog 50 (.agg c) 6 = mkField c (some (31, false, 1)) := afield_eq' Try.fld50_6
theorem Try.fld53_0 : fld Try.prog 53 0 = some (0, true, 20) := by kernel_rfl
theorem Try.fieldAddr53_0 {b o : Nat} : afieldAddr Try.prog 53 (.pointer (some ⟨b, o, none⟩)) 0 = mkFieldAddr b o (some (0, true, 20)) := afieldAddr_eq' Try.fld53_0
theorem Try.fieldAddrF53_0 {c : Array Value} {n : Nat} : afieldAddr Try.prog 53 (fp c n) 0 = mkFieldAddrF c n (some (0, true, 20)) := afieldAddr_fp Try.fld53_0
theorem Try.field53_0 {c : Array Value} : afield Try.prog 53 (.agg c) 0 = mkField c (some (0, true, 20)) := afield_eq' Try.fld53_0
theorem Try.fld53_1 : fld Try.prog 53 1 = some (20, false, 1) := by kernel_rfl
theorem Try.fieldAddr53_1 {b o : Nat} : afieldAddr Try.prog 53 (.pointer (some ⟨b, o, none⟩)) 1 = mkFieldAddr b o (some (20, false, 1)) := afieldAddr_eq' Try.fld53_1
theorem Try.fieldAddrF53_1 {c : Array Value} {n : Nat} : afieldAddr Try.prog 53 (fp c n) 1 = mkFieldAddrF c n (some (20, false, 1)) := afieldAddr_fp Try.fld53_1
theorem Try.field53_1 {c : Array Value} : afield Try.prog 53 (.agg c) 1 = mkField c (some (20, false, 1)) := afield_eq' Try.fld53_1
theorem Try.fld53_2 : fld Try.prog 53 2 = some (21, true, 4) := by kernel_rfl
theorem Try.fieldAddr53_2 {b o : Nat} : afieldAddr Try.prog 53 (.pointer (some ⟨b, o, none⟩)) 2 = mkFieldAddr b o (some (21, true, 4)) := afieldAddr_eq' Try.fld53_2
theorem Try.fieldAddrF53_2 {c : Array Value} {n : Nat} : afieldAddr Try.prog 53 (fp c n) 2 = mkFieldAddrF c n (some (21, true, 4)) := afieldAddr_fp Try.fld53_2
theorem Try.field53_2 {c : Array Value} : afield Try.prog 53 (.agg c) 2 = mkField c (some (21, true, 4)) := afield_eq' Try.fld53_2
theorem Try.fld54_0 : fld Try.prog 54 0 = some (0, true, 20) := by kernel_rfl
theorem Try.fieldAddr54_0 {b o : Nat} : afieldAddr Try.prog 54 (.pointer (some ⟨b, o, none⟩)) 0 = mkFieldAddr b o (some (0, true, 20)) := afieldAddr_eq' Try.fld54_0
theorem Try.fieldAddrF54_0 {c : Array Value} {n : Nat} : afieldAddr Try.prog 54 (fp c n) 0 = mkFieldAddrF c n (some (0, true, 20)) := afieldAddr_fp Try.fld54_0
theorem Try.field54_0 {c : Array Value} : afield Try.prog 54 (.agg c) 0 = mkField c (some (0, true, 20)) := afield_eq' Try.fld54_0
theorem Try.fld54_1 : fld Try.prog 54 1 = some (20, false, 1) := by kernel_rfl
theorem Try.fieldAddr54_1 {b o : Nat} : afieldAddr Try.prog 54 (.pointer (some ⟨b, o, none⟩)) 1 = mkFieldAddr b o (some (20, false, 1)) := afieldAddr_eq' Try.fld54_1
theorem Try.fieldAddrF54_1 {c : Array Value} {n : Nat} : afieldAddr Try.prog 54 (fp c n) 1 = mkFieldAddrF c n (some (20, false, 1)) := afieldAddr_fp Try.fld54_1
theorem Try.field54_1 {c : Array Value} : afield Try.prog 54 (.agg c) 1 = mkField c (some (20, false, 1)) := afield_eq' Try.fld54_1
theorem Try.fld54_2 : fld Try.prog 54 2 = some (21, true, 4) := by kernel_rfl
theorem Try.fieldAddr54_2 {b o : Nat} : afieldAddr Try.prog 54 (.pointer (some ⟨b, o, none⟩)) 2 = mkFieldAddr b o (some (21, true, 4)) := afieldAddr_eq' Try.fld54_2
theorem Try.fieldAddrF54_2 {c : Array Value} {n : Nat} : afieldAddr Try.prog 54 (fp c n) 2 = mkFieldAddrF c n (some (21, true, 4)) := afieldAddr_fp Try.fld54_2
theorem Try.field54_2 {c : Array Value} : afield Try.prog 54 (.agg c) 2 = mkField c (some (21, true, 4)) := afield_eq' Try.fld54_2
theorem Try.fld122_0 : fld Try.prog 122 0 = some (0, false, 1) := by kernel_rfl
theorem Try.fieldAddr122_0 {b o : Nat} : afieldAddr Try.prog 122 (.pointer (some ⟨b, o, none⟩)) 0 = mkFieldAddr b o (some (0, false, 1)) := afieldAddr_eq' Try.fld122_0
theorem Try.fieldAddrF122_0 {c : Array Value} {n : Nat} : afieldAddr Try.prog 122 (fp c n) 0 = mkFieldAddrF c n (some (0, false, 1)) := afieldAddr_fp Try.fld122_0
theorem Try.field122_0 {c : Array Value} : afield Try.prog 122 (.agg c) 0 = mkField c (some (0, false, 1)) := afield_eq' Try.fld122_0
theorem Try.fld122_1 : fld Try.prog 122 1 = some (1, false, 1) := by kernel_rfl
theorem Try.fieldAddr122_1 {b o : Nat} : afieldAddr Try.prog 122 (.pointer (some ⟨b, o, none⟩)) 1 = mkFieldAddr b o (some (1, false, 1)) := afieldAddr_eq' Try.fld122_1
theorem Try.fieldAddrF122_1 {c : Array Value} {n : Nat} : afieldAddr Try.prog 122 (fp c n) 1 = mkFieldAddrF c n (some (1, false, 1)) := afieldAddr_fp Try.fld122_1
theorem Try.field122_1 {c : Array Value} : afield Try.prog 122 (.agg c) 1 = mkField c (some (1, false, 1)) := afield_eq' Try.fld122_1
theorem Try.fld122_2 : fld Try.prog 122 2 = some (2, false, 1) := by kernel_rfl
theorem Try.fieldAddr122_2 {b o : Nat} : afieldAddr Try.prog 122 (.pointer (some ⟨b, o, none⟩)) 2 = mkFieldAddr b o (some (2, false, 1)) := afieldAddr_eq' Try.fld122_2
theorem Try.fieldAddrF122_2 {c : Array Value} {n : Nat} : afieldAddr Try.prog 122 (fp c n) 2 = mkFieldAddrF c n (some (2, false, 1)) := afieldAddr_fp Try.fld122_2
theorem Try.field122_2 {c : Array Value} : afield Try.prog 122 (.agg c) 2 = mkField c (some (2, false, 1)) := afield_eq' Try.fld122_2
theorem Try.fld122_3 : fld Try.prog 122 3 = some (3, false, 1) := by kernel_rfl
theorem Try.fieldAddr122_3 {b o : Nat} : afieldAddr Try.prog 122 (.pointer (some ⟨b, o, none⟩)) 3 = mkFieldAddr b o (some (3, false, 1)) := afieldAddr_eq' Try.fld122_3
theorem Try.fieldAddrF122_3 {c : Array Value} {n : Nat} : afieldAddr Try.prog 122 (fp c n) 3 = mkFieldAddrF c n (some (3, false, 1)) := afieldAddr_fp Try.fld122_3
theorem Try.field122_3 {c : Array Value} : afield Try.prog 122 (.agg c) 3 = mkField c (some (3, false, 1)) := afield_eq' Try.fld122_3
theorem Try.fld123_0 : fld Try.prog 123 0 = some (0, false, 1) := by kernel_rfl
theorem Try.fieldAddr123_0 {b o : Nat} : afieldAddr Try.prog 123 (.pointer (some ⟨b, o, none⟩)) 0 = mkFieldAddr b o (some (0, false, 1)) := afieldAddr_eq' Try.fld123_0
theorem Try.fieldAddrF123_0 {c : Array Value} {n : Nat} : afieldAddr Try.prog 123 (fp c n) 0 = mkFieldAddrF c n (some (0, false, 1)) := afieldAddr_fp Try.fld123_0
theorem Try.field123_0 {c : Array Value} : afield Try.prog 123 (.agg c) 0 = mkField c (some (0, false, 1)) := afield_eq' Try.fld123_0
theorem Try.fld123_1 : fld Try.prog 123 1 = some (1, false, 1) := by kernel_rfl
theorem Try.fieldAddr123_1 {b o : Nat} : afieldAddr Try.prog 123 (.pointer (some ⟨b, o, none⟩)) 1 = mkFieldAddr b o (some (1, false, 1)) := afieldAddr_eq' Try.fld123_1
theorem Try.fieldAddrF123_1 {c : Array Value} {n : Nat} : afieldAddr Try.prog 123 (fp c n) 1 = mkFieldAddrF c n (some (1, false, 1)) := afieldAddr_fp Try.fld123_1
theorem Try.field123_1 {c : Array Value} : afield Try.prog 123 (.agg c) 1 = mkField c (some (1, false, 1)) := afield_eq' Try.fld123_1
theorem Try.fld123_2 : fld Try.prog 123 2 = some (2, false, 1) := by kernel_rfl
theorem Try.fieldAddr123_2 {b o : Nat} : afieldAddr Try.prog 123 (.pointer (some ⟨b, o, none⟩)) 2 = mkFieldAddr b o (some (2, false, 1)) := afieldAddr_eq' Try.fld123_2
theorem Try.fieldAddrF123_2 {c : Array Value} {n : Nat} : afieldAddr Try.prog 123 (fp c n) 2 = mkFieldAddrF c n (some (2, false, 1)) := afieldAddr_fp Try.fld123_2
theorem Try.field123_2 {c : Array Value} : afield Try.prog 123 (.agg c) 2 = mkField c (some (2, false, 1)) := afield_eq' Try.fld123_2
theorem Try.fld123_3 : fld Try.prog 123 3 = some (3, false, 1) := by kernel_rfl
theorem Try.fieldAddr123_3 {b o : Nat} : afieldAddr Try.prog 123 (.pointer (some ⟨b, o, none⟩)) 3 = mkFieldAddr b o (some (3, false, 1)) := afieldAddr_eq' Try.fld123_3
theorem Try.fieldAddrF123_3 {c : Array Value} {n : Nat} : afieldAddr Try.prog 123 (fp c n) 3 = mkFieldAddrF c n (some (3, false, 1)) := afieldAddr_fp Try.fld123_3
theorem Try.field123_3 {c : Array Value} : afield Try.prog 123 (.agg c) 3 = mkField c (some (3, false, 1)) := afield_eq' Try.fld123_3
theorem Try.fld125_0 : fld Try.prog 125 0 = some (0, true, 0) := by kernel_rfl
theorem Try.fieldAddr125_0 {b o : Nat} : afieldAddr Try.prog 125 (.pointer (some ⟨b, o, none⟩)) 0 = mkFieldAddr b o (some (0, true, 0)) := afieldAddr_eq' Try.fld125_0
theorem Try.fieldAddrF125_0 {c : Array Value} {n : Nat} : afieldAddr Try.prog 125 (fp c n) 0 = mkFieldAddrF c n (some (0, true, 0)) := afieldAddr_fp Try.fld125_0
theorem Try.field125_0 {c : Array Value} : afield Try.prog 125 (.agg c) 0 = mkField c (some (0, true, 0)) := afield_eq' Try.fld125_0
theorem Try.fld126_0 : fld Try.prog 126 0 = some (0, true, 0) := by kernel_rfl
theorem Try.fieldAddr126_0 {b o : Nat} : afieldAddr Try.prog 126 (.pointer (some ⟨b, o, none⟩)) 0 = mkFieldAddr b o (some (0, true, 0)) := afieldAddr_eq' Try.fld126_0
theorem Try.fieldAddrF126_0 {c : Array Value} {n : Nat} : afieldAddr Try.prog 126 (fp c n) 0 = mkFieldAddrF c n (some (0, true, 0)) := afieldAddr_fp Try.fld126_0
theorem Try.field126_0 {c : Array Value} : afield Try.prog 126 (.agg c) 0 = mkField c (some (0, true, 0)) := afield_eq' Try.fld126_0
theorem Try.fld134_0 : fld Try.prog 134 0 = some (0, false, 1) := by kernel_rfl
theorem Try.fieldAddr134_0 {b o : Nat} : afieldAddr Try.prog 134 (.pointer (some ⟨b, o, none⟩)) 0 = mkFieldAddr b o (some (0, false, 1)) := afieldAddr_eq' Try.fld134_0
theorem Try.fieldAddrF134_0 {c : Array Value} {n : Nat} : afieldAddr Try.prog 134 (fp c n) 0 = mkFieldAddrF c n (some (0, false, 1)) := afieldAddr_fp Try.fld134_0
theorem Try.field134_0 {c : Array Value} : afield Try.prog 134 (.agg c) 0 = mkField c (some (0, false, 1)) := afield_eq' Try.fld134_0
theorem Try.fld134_1 : fld Try.prog 134 1 = some (1, false, 1) := by kernel_rfl
theorem Try.fieldAddr134_1 {b o : Nat} : afieldAddr Try.prog 134 (.pointer (some ⟨b, o, none⟩)) 1 = mkFieldAddr b o (some (1, false, 1)) := afieldAddr_eq' Try.fld134_1
theorem Try.fieldAddrF134_1 {c : Array Value} {n : Nat} : afieldAddr Try.prog 134 (fp c n) 1 = mkFieldAddrF c n (some (1, false, 1)) := afieldAddr_fp Try.fld134_1
theorem Try.field134_1 {c : Array Value} : afield Try.prog 134 (.agg c) 1 = mkField c (some (1, false, 1)) := afield_eq' Try.fld134_1
theorem Try.fld134_2 : fld Try.prog 134 2 = some (2, false, 1) := by kernel_rfl
theorem Try.fieldAddr134_2 {b o : Nat} : afieldAddr Try.prog 134 (.pointer (some ⟨b, o, none⟩)) 2 = mkFieldAddr b o (some (2, false, 1)) := afieldAddr_eq' Try.fld134_2
theorem Try.fieldAddrF134_2 {c : Array Value} {n : Nat} : afieldAddr Try.prog 134 (fp c n) 2 = mkFieldAddrF c n (some (2, false, 1)) := afieldAddr_fp Try.fld134_2
theorem Try.field134_2 {c : Array Value} : afield Try.prog 134 (.agg c) 2 = mkField c (some (2, false, 1)) := afield_eq' Try.fld134_2
theorem Try.fld134_3 : fld Try.prog 134 3 = some (3, false, 1) := by kernel_rfl
theorem Try.fieldAddr134_3 {b o : Nat} : afieldAddr Try.prog 134 (.pointer (some ⟨b, o, none⟩)) 3 = mkFieldAddr b o (some (3, false, 1)) := afieldAddr_eq' Try.fld134_3
theorem Try.fieldAddrF134_3 {c : Array Value} {n : Nat} : afieldAddr Try.prog 134 (fp c n) 3 = mkFieldAddrF c n (some (3, false, 1)) := afieldAddr_fp Try.fld134_3
theorem Try.field134_3 {c : Array Value} : afield Try.prog 134 (.agg c) 3 = mkField c (some (3, false, 1)) := afield_eq' Try.fld134_3
theorem Try.fld134_4 : fld Try.prog 134 4 = some (4, false, 1) := by kernel_rfl
theorem Try.fieldAddr134_4 {b o : Nat} : afieldAddr Try.prog 134 (.pointer (some ⟨b, o, none⟩)) 4 = mkFieldAddr b o (some (4, false, 1)) := afieldAddr_eq' Try.fld134_4
theorem Try.fieldAddrF134_4 {c : Array Value} {n : Nat} : afieldAddr Try.prog 134 (fp c n) 4 = mkFieldAddrF c n (some (4, false, 1)) := afieldAddr_fp Try.fld134_4
theorem Try.field134_4 {c : Array Value} : afield Try.prog 134 (.agg c) 4 = mkField c (some (4, false, 1)) := afield_eq' Try.fld134_4
theorem Try.fld134_5 : fld Try.prog 134 5 = some (5, false, 1) := by kernel_rfl
theorem Try.fieldAddr134_5 {b o : Nat} : afieldAddr Try.prog 134 (.pointer (some ⟨b, o, none⟩)) 5 = mkFieldAddr b o (some (5, false, 1)) := afieldAddr_eq' Try.fld134_5
theorem Try.fieldAddrF134_5 {c : Array Value} {n : Nat} : afieldAddr Try.prog 134 (fp c n) 5 = mkFieldAddrF c n (some (5, false, 1)) := afieldAddr_fp Try.fld134_5
theorem Try.field134_5 {c : Array Value} : afield Try.prog 134 (.agg c) 5 = mkField c (some (5, false, 1)) := afield_eq' Try.fld134_5
theorem Try.fld134_6 : fld Try.prog 134 6 = some (6, false, 1) := by kernel_rfl
theorem Try.fieldAddr134_6 {b o : Nat} : afieldAddr Try.prog 134 (.pointer (some ⟨b, o, none⟩)) 6 = mkFieldAddr b o (some (6, false, 1)) := afieldAddr_eq' Try.fld134_6
theorem Try.fieldAddrF134_6 {c : Array Value} {n : Nat} : afieldAddr Try.prog 134 (fp c n) 6 = mkFieldAddrF c n (some (6, false, 1)) := afieldAddr_fp Try.fld134_6
theorem Try.field134_6 {c : Array Value} : afield Try.prog 134 (.agg c) 6 = mkField c (some (6, false, 1)) := afield_eq' Try.fld134_6
theorem Try.fld134_7 : fld Try.prog 134 7 = some (7, false, 1) := by kernel_rfl
theorem Try.fieldAddr134_7 {b o : Nat} : afieldAddr Try.prog 134 (.pointer (some ⟨b, o, none⟩)) 7 = mkFieldAddr b o (some (7, false, 1)) := afieldAddr_eq' Try.fld134_7
theorem Try.fieldAddrF134_7 {c : Array Value} {n : Nat} : afieldAddr Try.prog 134 (fp c n) 7 = mkFieldAddrF c n (some (7, false, 1)) := afieldAddr_fp Try.fld134_7
theorem Try.field134_7 {c : Array Value} : afield Try.prog 134 (.agg c) 7 = mkField c (some (7, false, 1)) := afield_eq' Try.fld134_7
theorem Try.fld134_8 : fld Try.prog 134 8 = some (8, false, 1) := by kernel_rfl
theorem Try.fieldAddr134_8 {b o : Nat} : afieldAddr Try.prog 134 (.pointer (some ⟨b, o, none⟩)) 8 = mkFieldAddr b o (some (8, false, 1)) := afieldAddr_eq' Try.fld134_8
theorem Try.fieldAddrF134_8 {c : Array Value} {n : Nat} : afieldAddr Try.prog 134 (fp c n) 8 = mkFieldAddrF c n (some (8, false, 1)) := afieldAddr_fp Try.fld134_8
theorem Try.field134_8 {c : Array Value} : afield Try.prog 134 (.agg c) 8 = mkField c (some (8, false, 1)) := afield_eq' Try.fld134_8
theorem Try.fld134_9 : fld Try.prog 134 9 = some (9, false, 1) := by kernel_rfl
theorem Try.fieldAddr134_9 {b o : Nat} : afieldAddr Try.prog 134 (.pointer (some ⟨b, o, none⟩)) 9 = mkFieldAddr b o (some (9, false, 1)) := afieldAddr_eq' Try.fld134_9
theorem Try.fieldAddrF134_9 {c : Array Value} {n : Nat} : afieldAddr Try.prog 134 (fp c n) 9 = mkFieldAddrF c n (some (9, false, 1)) := afieldAddr_fp Try.fld134_9
theorem Try.field134_9 {c : Array Value} : afield Try.prog 134 (.agg c) 9 = mkField c (some (9, false, 1)) := afield_eq' Try.fld134_9
theorem Try.fld134_10 : fld Try.prog 134 10 = some (10, false, 1) := by kernel_rfl
theorem Try.fieldAddr134_10 {b o : Nat} : afieldAddr Try.prog 134 (.pointer (some ⟨b, o, none⟩)) 10 = mkFieldAddr b o (some (10, false, 1)) := afieldAddr_eq' Try.fld134_10
theorem Try.fieldAddrF134_10 {c : Array Value} {n : Nat} : afieldAddr Try.prog 134 (fp c n) 10 = mkFieldAddrF c n (some (10, false, 1)) := afieldAddr_fp Try.fld134_10
theorem Try.field134_10 {c : Array Value} : afield Try.prog 134 (.agg c) 10 = mkField c (some (10, false, 1)) := afield_eq' Try.fld134_10
theorem Try.fld135_0 : fld Try.prog 135 0 = some (0, false, 1) := by kernel_rfl
theorem Try.fieldAddr135_0 {b o : Nat} : afieldAddr Try.prog 135 (.pointer (some ⟨b, o, none⟩)) 0 = mkFieldAddr b o (some (0, false, 1)) := afieldAddr_eq' Try.fld135_0
theorem Try.fieldAddrF135_0 {c : Array Value} {n : Nat} : afieldAddr Try.prog 135 (fp c n) 0 = mkFieldAddrF c n (some (0, false, 1)) := afieldAddr_fp Try.fld135_0
theorem Try.field135_0 {c : Array Value} : afield Try.prog 135 (.agg c) 0 = mkField c (some (0, false, 1)) := afield_eq' Try.fld135_0
theorem Try.fld135_1 : fld Try.prog 135 1 = some (1, false, 1) := by kernel_rfl
theorem Try.fieldAddr135_1 {b o : Nat} : afieldAddr Try.prog 135 (.pointer (some ⟨b, o, none⟩)) 1 = mkFieldAddr b o (some (1, false, 1)) := afieldAddr_eq' Try.fld135_1
theorem Try.fieldAddrF135_1 {c : Array Value} {n : Nat} : afieldAddr Try.prog 135 (fp c n) 1 = mkFieldAddrF c n (some (1, false, 1)) := afieldAddr_fp Try.fld135_1
theorem Try.field135_1 {c : Array Value} : afield Try.prog 135 (.agg c) 1 = mkField c (some (1, false, 1)) := afield_eq' Try.fld135_1
theorem Try.fld135_2 : fld Try.prog 135 2 = some (2, false, 1) := by kernel_rfl
theorem Try.fieldAddr135_2 {b o : Nat} : afieldAddr Try.prog 135 (.pointer (some ⟨b, o, none⟩)) 2 = mkFieldAddr b o (some (2, false, 1)) := afieldAddr_eq' Try.fld135_2
theorem Try.fieldAddrF135_2 {c : Array Value} {n : Nat} : afieldAddr Try.prog 135 (fp c n) 2 = mkFieldAddrF c n (some (2, false, 1)) := afieldAddr_fp Try.fld135_2
theorem Try.field135_2 {c : Array Value} : afield Try.prog 135 (.agg c) 2 = mkField c (some (2, false, 1)) := afield_eq' Try.fld135_2
theorem Try.fld135_3 : fld Try.prog 135 3 = some (3, false, 1) := by kernel_rfl
theorem Try.fieldAddr135_3 {b o : Nat} : afieldAddr Try.prog 135 (.pointer (some ⟨b, o, none⟩)) 3 = mkFieldAddr b o (some (3, false, 1)) := afieldAddr_eq' Try.fld135_3
theorem Try.fieldAddrF135_3 {c : Array Value} {n : Nat} : afieldAddr Try.prog 135 (fp c n) 3 = mkFieldAddrF c n (some (3, false, 1)) := afieldAddr_fp Try.fld135_3
theorem Try.field135_3 {c : Array Value} : afield Try.prog 135 (.agg c) 3 = mkField c (some (3, false, 1)) := afield_eq' Try.fld135_3
theorem Try.fld135_4 : fld Try.prog 135 4 = some (4, false, 1) := by kernel_rfl
theorem Try.fieldAddr135_4 {b o : Nat} : afieldAddr Try.prog 135 (.pointer (some ⟨b, o, none⟩)) 4 = mkFieldAddr b o (some (4, false, 1)) := afieldAddr_eq' Try.fld135_4
theorem Try.fieldAddrF135_4 {c : Array Value} {n : Nat} : afieldAddr Try.prog 135 (fp c n) 4 = mkFieldAddrF c n (some (4, false, 1)) := afieldAddr_fp Try.fld135_4
theorem Try.field135_4 {c : Array Value} : afield Try.prog 135 (.agg c) 4 = mkField c (some (4, false, 1)) := afield_eq' Try.fld135_4
theorem Try.fld135_5 : fld Try.prog 135 5 = some (5, false, 1) := by kernel_rfl
theorem Try.fieldAddr135_5 {b o : Nat} : afieldAddr Try.prog 135 (.pointer (some ⟨b, o, none⟩)) 5 = mkFieldAddr b o (some (5, false, 1)) := afieldAddr_eq' Try.fld135_5
theorem Try.fieldAddrF135_5 {c : Array Value} {n : Nat} : afieldAddr Try.prog 135 (fp c n) 5 = mkFieldAddrF c n (some (5, false, 1)) := afieldAddr_fp Try.fld135_5
theorem Try.field135_5 {c : Array Value} : afield Try.prog 135 (.agg c) 5 = mkField c (some (5, false, 1)) := afield_eq' Try.fld135_5
theorem Try.fld135_6 : fld Try.prog 135 6 = some (6, false, 1) := by kernel_rfl
theorem Try.fieldAddr135_6 {b o : Nat} : afieldAddr Try.prog 135 (.pointer (some ⟨b, o, none⟩)) 6 = mkFieldAddr b o (some (6, false, 1)) := afieldAddr_eq' Try.fld135_6
theorem Try.fieldAddrF135_6 {c : Array Value} {n : Nat} : afieldAddr Try.prog 135 (fp c n) 6 = mkFieldAddrF c n (some (6, false, 1)) := afieldAddr_fp Try.fld135_6
theorem Try.field135_6 {c : Array Value} : afield Try.prog 135 (.agg c) 6 = mkField c (some (6, false, 1)) := afield_eq' Try.fld135_6
theorem Try.fld135_7 : fld Try.prog 135 7 = some (7, false, 1) := by kernel_rfl
theorem Try.fieldAddr135_7 {b o : Nat} : afieldAddr Try.prog 135 (.pointer (some ⟨b, o, none⟩)) 7 = mkFieldAddr b o (some (7, false, 1)) := afieldAddr_eq' Try.fld135_7
theorem Try.fieldAddrF135_7 {c : Array Value} {n : Nat} : afieldAddr Try.prog 135 (fp c n) 7 = mkFieldAddrF c n (some (7, false, 1)) := afieldAddr_fp Try.fld135_7
theorem Try.field135_7 {c : Array Value} : afield Try.prog 135 (.agg c) 7 = mkField c (some (7, false, 1)) := afield_eq' Try.fld135_7
theorem Try.fld135_8 : fld Try.prog 135 8 = some (8, false, 1) := by kernel_rfl
theorem Try.fieldAddr135_8 {b o : Nat} : afieldAddr Try.prog 135 (.pointer (some ⟨b, o, none⟩)) 8 = mkFieldAddr b o (some (8, false, 1)) := afieldAddr_eq' Try.fld135_8
theorem Try.fieldAddrF135_8 {c : Array Value} {n : Nat} : afieldAddr Try.prog 135 (fp c n) 8 = mkFieldAddrF c n (some (8, false, 1)) := afieldAddr_fp Try.fld135_8
theorem Try.field135_8 {c : Array Value} : afield Try.prog 135 (.agg c) 8 = mkField c (some (8, false, 1)) := afield_eq' Try.fld135_8
theorem Try.fld135_9 : fld Try.prog 135 9 = some (9, false, 1) := by kernel_rfl
theorem Try.fieldAddr135_9 {b o : Nat} : afieldAddr Try.prog 135 (.pointer (some ⟨b, o, none⟩)) 9 = mkFieldAddr b o (some (9, false, 1)) := afieldAddr_eq' Try.fld135_9
theorem Try.fieldAddrF135_9 {c : Array Value} {n : Nat} : afieldAddr Try.prog 135 (fp c n) 9 = mkFieldAddrF c n (some (9, false, 1)) := afieldAddr_fp Try.fld135_9
theorem Try.field135_9 {c : Array Value} : afield Try.prog 135 (.agg c) 9 = mkField c (some (9, false, 1)) := afield_eq' Try.fld135_9
theorem Try.fld135_10 : fld Try.prog 135 10 = some (10, false, 1) := by kernel_rfl
theorem Try.fieldAddr135_10 {b o : Nat} : afieldAddr Try.prog 135 (.pointer (some ⟨b, o, none⟩)) 10 = mkFieldAddr b o (some (10, false, 1)) := afieldAddr_eq' Try.fld135_10
theorem Try.fieldAddrF135_10 {c : Array Value} {n : Nat} : afieldAddr Try.prog 135 (fp c n) 10 = mkFieldAddrF c n (some (10, false, 1)) := afieldAddr_fp Try.fld135_10
theorem Try.field135_10 {c : Array Value} : afield Try.prog 135 (.agg c) 10 = mkField c (some (10, false, 1)) := afield_eq' Try.fld135_10
theorem Try.zero1 : zeroCellsOf Try.prog 1 = some (#[Value.nilFunc]) := by kernel_rfl
theorem Try.alloc1 {h : AH} : aalloc Try.prog h 1 = mkAlloc h (some (#[Value.nilFunc])) := aalloc_eq' Try.zero1
theorem Try.zero2 : zeroCellsOf Try.prog 2 = some (#[Value.int IntKind.i64 (0)]) := by kernel_rfl
theorem Try.alloc2 {h : AH} : aalloc Try.prog h 2 = mkAlloc h (some (#[Value.int IntKind.i64 (0)])) := aalloc_eq' Try.zero2
theorem Try.zero3 : zeroCellsOf Try.prog 3 = some (#[Value.int IntKind.i64 (0)]) := by kernel_rfl
theorem Try.alloc3 {h : AH} : aalloc Try.prog h 3 = mkAlloc h (some (#[Value.int IntKind.i64 (0)])) := aalloc_eq' Try.zero3
theorem Try.zero4 : zeroCellsOf Try.prog 4 = some (#[Value.bool false]) := by kernel_rfl
theorem Try.alloc4 {h : AH} : aalloc Try.prog h 4 = mkAlloc h (some (#[Value.bool false])) := aalloc_eq' Try.zero4
theorem Try.zero5 : zeroCellsOf Try.prog 5 = some (#[Value.int IntKind.u8 (0)]) := by kernel_rfl
theorem Try.alloc5 {h : AH} : aalloc Try.prog h 5 = mkAlloc h (some (#[Value.int IntKind.u8 (0)])) := aalloc_eq' Try.zero5
theorem Try.zero6 : zeroCellsOf Try.prog 6 = some (#[Value.int IntKind.u8 (0)]) := by kernel_rfl
theorem Try.alloc6 {h : AH} : aalloc Try.prog h 6 = mkAlloc h (some (#[Value.int IntKind.u8 (0)])) := aalloc_eq' Try.zero6
theorem Try.zero7 : zeroCellsOf Try.prog 7 = some (#[Value.int IntKind.i64 (0), Value.int IntKind.i64 (0), Value.bool false, Value.int IntKind.u8 (0)]) := by kernel_rfl
theorem Try.alloc7 {h : AH} : aalloc Try.prog h 7 = mkAlloc h (some (#[Value.int IntKind.i64 (0), Value.int IntKind.i64 (0), Value.bool false, Value.int IntKind.u8 (0)])) := aalloc_eq' Try.zero7
theorem Try.zero8 : zeroCellsOf Try.prog 8 = some (#[Value.int IntKind.i64 (0), Value.int IntKind.i64 (0), Value.bool false, Value.int IntKind.u8 (0)]) := by kernel_rfl
theorem Try.alloc8 {h : AH} : aalloc Try.prog h 8 = mkAlloc h (some (#[Value.int IntKind.i64 (0), Value.int IntKind.i64 (0), Value.bool false, Value.int IntKind.u8 (0)])) := aalloc_eq' Try.zero8
theorem Try.zero9 : zeroCellsOf Try.prog 9 = some (#[Value.string { data := { toList := [] } }]) := by kernel_rfl
theorem Try.alloc9 {h : AH} : aalloc Try.prog h 9 = mkAlloc h (some (#[Value.string { data := { toList := [] } }])) := aalloc_eq' Try.zero9
theorem Try.zero10 : zeroCellsOf Try.prog 10 = some (#[Value.string { data := { toList := [] } }]) := by kernel_rfl
theorem Try.alloc10 {h : AH} : aalloc Try.prog h 10 = mkAlloc h (some (#[Value.string { data := { toList := [] } }])) := aalloc_eq' Try.zero10
theorem Try.zero11 : zeroCellsOf Try.prog 11 = some (#[Value.string { data := { toList := [] } }]) := by kernel_rfl
theorem Try.alloc11 {h : AH} : aalloc Try.prog h 11 = mkAlloc h (some (#[Value.string { data := { toList := [] } }])) := aalloc_eq' Try.zero11
theorem Try.zero12 : zeroCellsOf Try.prog 12 = some (#[Value.int IntKind.u64 (0)]) := by kernel_rfl
theorem Try.alloc12 {h : AH} : aalloc Try.prog h 12 = mkAlloc h (some (#[Value.int IntKind.u64 (0)])) := aalloc_eq' Try.zero12
theorem Try.zero13 : zeroCellsOf Try.prog 13 = some (#[Value.string { data := { toList := [] } }, Value.int IntKind.u64 (0)]) := by kernel_rfl
theorem Try.alloc13 {h : AH} : aalloc Try.prog h 13 = mkAlloc h (some (#[Value.string { data := { toList := [] } }, Value.int IntKind.u64 (0)])) := aalloc_eq' Try.zero13
theorem Try.zero14 : zeroCellsOf Try.prog 14 = some (#[Value.string { data := { toList := [] } }, Value.int IntKind.u64 (0)]) := by kernel_rfl
theorem Try.alloc14 {h : AH} : aalloc Try.prog h 14 = mkAlloc h (some (#[Value.string { data := { toList := [] } }, Value.int IntKind.u64 (0)])) := aalloc_eq' Try.zero14
theorem Try.zero15 : zeroCellsOf Try.prog 15 = some (#[Value.pointer none]) := by kernel_rfl
theorem Try.alloc15 {h : AH} : aalloc Try.prog h 15 = mkAlloc h (some (#[Value.pointer none])) := aalloc_eq' Try.zero15
theorem Try.zero16 : zeroCellsOf Try.prog 16 = some (#[Value.pointer none]) := by kernel_rfl
theorem Try.alloc16 {h : AH} : aalloc Try.prog h 16 = mkAlloc h (some (#[Value.pointer none])) := aalloc_eq' Try.zero16
theorem Try.zero17 : zeroCellsOf Try.prog 17 = some (#[Value.pointer none]) := by kernel_rfl
theorem Try.alloc17 {h : AH} : aalloc Try.prog h 17 = mkAlloc h (some (#[Value.pointer none])) := aalloc_eq' Try.zero17
theorem Try.zero18 : zeroCellsOf Try.prog 18 = some (#[Value.pointer none]) := by kernel_rfl
theorem Try.alloc18 {h : AH} : aalloc Try.prog h 18 = mkAlloc h (some (#[Value.pointer none])) := aalloc_eq' Try.zero18
theorem Try.zero19 : zeroCellsOf Try.prog 19 = some (#[Value.pointer none]) := by kernel_rfl
theorem Try.alloc19 {h : AH} : aalloc Try.prog h 19 = mkAlloc h (some (#[Value.pointer none])) := aalloc_eq' Try.zero19
theorem Try.zero20 : zeroCellsOf Try.prog 20 = some (#[Value.nilIface]) := by kernel_rfl
theorem Try.alloc20 {h : AH} : aalloc Try.prog h 20 = mkAlloc h (some (#[Value.nilIface])) := aalloc_eq' Try.zero20
theorem Try.zero21 : zeroCellsOf Try.prog 21 = some (#[Value.int IntKind.i32 (0)]) := by kernel_rfl
theorem Try.alloc21 {h : AH} : aalloc Try.prog h 21 = mkAlloc h (some (#[Value.int IntKind.i32 (0)])) := aalloc_eq' Try.zero21
theorem Try.zero22 : zeroCellsOf Try.prog 22 = some (#[Value.slice none 0 0]) := by kernel_rfl
theorem Try.alloc22 {h : AH} : aalloc Try.prog h 22 = mkAlloc h (some (#[Value.slice none 0 0])) := aalloc_eq' Try.zero22
theorem Try.zero23 : zeroCellsOf Try.prog 23 = some (#[Value.nilFunc]) := by kernel_rfl
theorem Try.alloc23 {h : AH} : aalloc Try.prog h 23 = mkAlloc h (some (#[Value.nilFunc])) := aalloc_eq' Try.zero23
theorem Try.zero24 : zeroCellsOf Try.prog 24 = some (#[Value.nilFunc]) := by kernel_rfl
theorem Try.alloc24 {h : AH} : aalloc Try.prog h 24 = mkAlloc h (some (#[Value.nilFunc])) := aalloc_eq' Try.zero24
theorem Try.zero25 : zeroCellsOf Try.prog 25 = some (#[Value.nilFunc]) := by kernel_rfl
theorem Try.alloc25 {h : AH} : aalloc Try.prog h 25 = mkAlloc h (some (#[Value.nilFunc])) := aalloc_eq' Try.zero25
theorem Try.zero26 : zeroCellsOf Try.prog 26 = some (#[Value.slice none 0 0]) := by kernel_rfl
theorem Try.alloc26 {h : AH} : aalloc Try.prog h 26 = mkAlloc h (some (#[Value.slice none 0 0])) := aalloc_eq' Try.zero26
theorem Try.zero27 : zeroCellsOf Try.prog 27 = some (#[Value.slice none 0 0, Value.slice none 0 0]) := by kernel_rfl
theorem Try.alloc27 {h : AH} : aalloc Try.prog h 27 = mkAlloc h (some (#[Value.slice none 0 0, Value.slice none 0 0])) := aalloc_eq' Try.zero27
theorem Try.zero28 : zeroCellsOf Try.prog 28 = some (#[Value.slice none 0 0, Value.slice none 0 0]) := by kernel_rfl
theorem Try.alloc28 {h : AH} : aalloc Try.prog h 28 = mkAlloc h (some (#[Value.slice none 0 0, Value.slice none 0 0])) := aalloc_eq' Try.zero28
theorem Try.zero29 : zeroCellsOf Try.prog 29 = some (#[Value.nilFunc]) := by kernel_rfl
theorem Try.alloc29 {h : AH} : aalloc Try.prog h 29 = mkAlloc h (some (#[Value.nilFunc])) := aalloc_eq' Try.zero29
theorem Try.zero30 : zeroCellsOf Try.prog 30 = some (#[Value.nilFunc]) := by kernel_rfl
theorem Try.alloc30 {h : AH} : aalloc Try.prog h 30 = mkAlloc h (some (#[Value.nilFunc])) := aalloc_eq' Try.zero30
theorem Try.zero31 : zeroCellsOf Try.prog 31 = some (#[Value.nilFunc]) := by kernel_rfl
theorem Try.alloc31 {h : AH} : aalloc Try.prog h 31 = mkAlloc h (some (#[Value.nilFunc])) := aalloc_eq' Try.zero31
theorem Try.zero32 : zeroCellsOf Try.prog 32 = some ((Array.replicate 20 (Value.int IntKind.u8 (0)))) := by kernel_rfl
theorem Try.alloc32 {h : AH} : aalloc Try.prog h 32 = mkAlloc h (some ((Array.replicate 20 (Value.int IntKind.u8 (0))))) := aalloc_eq' Try.zero32
theorem Try.zero33 : zeroCellsOf Try.prog 33 = some ((Array.replicate 20 (Value.int IntKind.u8 (0)))) := by kernel_rfl
theorem Try.alloc33 {h : AH} : aalloc Try.prog h 33 = mkAlloc h (some ((Array.replicate 20 (Value.int IntKind.u8 (0))))) := aalloc_eq' Try.zero33
theorem Try.zero34 : zeroCellsOf Try.prog 34 = some (#[Value.int IntKind.u64 (0)]) := by kernel_rfl
theorem Try.alloc34 {h : AH} : aalloc Try.prog h 34 = mkAlloc h (some (#[Value.int IntKind.u64 (0)])) := aalloc_eq' Try.zero34
theorem Try.zero35 : zeroCellsOf Try.prog 35 = some (#[Value.int IntKind.u64 (0), Value.int IntKind.u64 (0), Value.int IntKind.u64 (0), Value.int IntKind.u64 (0)]) := by kernel_rfl
theorem Try.alloc35 {h : AH} : aalloc Try.prog h 35 = mkAlloc h (some (#[Value.int IntKind.u64 (0), Value.int IntKind.u64 (0), Value.int IntKind.u64 (0), Value.int IntKind.u64 (0)])) := aalloc_eq' Try.zero35
theorem Try.zero36 : zeroCellsOf Try.prog 36 = some (#[Value.int IntKind.u64 (0), Value.int IntKind.u64 (0), Value.int IntKind.u64 (0), Value.int IntKind.u64 (0)]) := by kernel_rfl
theorem Try.alloc36 {h : AH} : aalloc Try.prog h 36 = mkAlloc h (some (#[Value.int IntKind.u64 (0), Value.int IntKind.u64 (0), Value.int IntKind.u64 (0), Value.int IntKind.u64 (0)])) := aalloc_eq' Try.zero36
theorem Try.zero37 : zeroCellsOf Try.prog 37 = some (#[Value.nilFunc]) := by kernel_rfl
theorem Try.alloc37 {h : AH} : aalloc Try.prog h 37 = mkAlloc h (some (#[Value.nilFunc])) := aalloc_eq' Try.zero37
theorem Try.zero38 : zeroCellsOf Try.prog 38 = some (#[Value.nilFunc]) := by kernel_rfl
theorem Try.alloc38 {h : AH} : aalloc Try.prog h 38 = mkAlloc h (some (#[Value.nilFunc])) := aalloc_eq' Try.zero38
theorem Try.zero39 : zeroCellsOf Try.prog 39 = some (#[Value.slice none 0 0]) := by kernel_rfl
theorem Try.alloc39 {h : AH} : aalloc Try.prog h 39 = mkAlloc h (some (#[Value.slice none 0 0])) := aalloc_eq' Try.zero39
theorem Try.zero40 : zeroCellsOf Try.prog 40 = some (#[Value.nilFunc]) := by kernel_rfl
theorem Try.alloc40 {h : AH} : aalloc Try.prog h 40 = mkAlloc h (some (#[Value.nilFunc])) := aalloc_eq' Try.zero40
theorem Try.zero41 : zeroCellsOf Try.prog 41 = some (#[Value.nilFunc]) := by kernel_rfl
theorem Try.alloc41 {h : AH} : aalloc Try.prog h 41 = mkAlloc h (some (#[Value.nilFunc])) := aalloc_eq' Try.zero41
theorem Try.zero42 : zeroCellsOf Try.prog 42 = some (#[Value.slice none 0 0]) := by kernel_rfl
theorem Try.alloc42 {h : AH} : aalloc Try.prog h 42 = mkAlloc h (some (#[Value.slice none 0 0])) := aalloc_eq' Try.zero42
theorem Try.zero43 : zeroCellsOf Try.prog 43 = some (#[Value.nilFunc]) := by kernel_rfl
theorem Try.alloc43 {h : AH} : aalloc Try.prog h 43 = mkAlloc h (some (#[Value.nilFunc])) := aalloc_eq' Try.zero43
theorem Try.zero44 : zeroCellsOf Try.prog 44 = some (#[Value.nilFunc]) := by kernel_rfl
theorem Try.alloc44 {h : AH} : aalloc Try.prog h 44 = mkAlloc h (some (#[Value.nilFunc])) := aalloc_eq' Try.zero44
theorem Try.zero45 : zeroCellsOf Try.prog 45 = some (#[Value.nilFunc]) := by kernel_rfl
theorem Try.alloc45 {h : AH} : aalloc Try.prog h 45 = mkAlloc h (some (#[Value.nilFunc])) := aalloc_eq' Try.zero45
theorem Try.zero46 : zeroCellsOf Try.prog 46 = some (#[Value.slice none 0 0]) := by kernel_rfl
theorem Try.alloc46 {h : AH} : aalloc Try.prog h 46 = mkAlloc h (some (#[Value.slice none 0 0])) := aalloc_eq' Try.zero46
theorem Try.zero47 : zeroCellsOf Try.prog 47 = some (#[Value.int IntKind.u16 (0)]) := by kernel_rfl
theorem Try.alloc47 {h : AH} : aalloc Try.prog h 47 = mkAlloc h (some (#[Value.int IntKind.u16 (0)])) := aalloc_eq' Try.zero47
theorem Try.zero48 : zeroCellsOf Try.prog 48 = some (#[Value.int IntKind.u16 (0)]) := by kernel_rfl
theorem Try.alloc48 {h : AH} : aalloc Try.prog h 48 = mkAlloc h (some (#[Value.int IntKind.u16 (0)])) := aalloc_eq' Try.zero48
theorem Try.zero49 : zeroCellsOf Try.prog 49 = some (#[Value.int IntKind.u8 (0), Value.int IntKind.i64 (0)] ++ ((Array.replicate 20 (Value.int IntKind.u8 (0))) ++ (#[Value.int IntKind.u64 (0), Value.int IntKind.u64 (0), Value.int IntKind.u64 (0), Value.int IntKind.u64 (0)] ++ (#[Value.int IntKind.u64 (0), Value.int IntKind.u64 (0), Value.int IntKind.u64 (0), Value.int IntKind.u64 (0)] ++ (#[Value.slice none 0 0, Value.int IntKind.u16 (0)]))))) := by kernel_rfl
theorem Try.alloc49 {h : AH} : aalloc Try.prog h 49 = mkAlloc h (some (#[Value.int IntKind.u8 (0), Value.int IntKind.i64 (0)] ++ ((Array.replicate 20 (Value.int IntKind.u8 (0))) ++ (#[Value.int IntKind.u64 (0), Value.int IntKind.u64 (0), Value.int IntKind.u64 (0), Value.int IntKind.u64 (0)] ++ (#[Value.int IntKind.u64 (0), Value.int IntKind.u64 (0), Value.int IntKind.u64 (0), Value.int IntKind.u64 (0)] ++ (#[Value.slice none 0 0, Value.int IntKind.u16 (0)])))))) := aalloc_eq' Try.zero49
theorem Try.zero50 : zeroCellsOf Try.prog 50 = some (#[Value.int IntKind.u8 (0), Value.int IntKind.i64 (0)] ++ ((Array.replicate 20 (Value.int IntKind.u8 (0))) ++ (#[Value.int IntKind.u64 (0), Value.int IntKind.u64 (0), Value.int IntKind.u64 (0), Value.int IntKind.u64 (0)] ++ (#[Value.int IntKind.u64 (0), Value.int IntKind.u64 (0), Value.int IntKind.u64 (0), Value.int IntKind.u64 (0)] ++ (#[Value.slice none 0 0, Value.int IntKind.u16 (0)]))))) := by kernel_rfl
theorem Try.alloc50 {h : AH} : aalloc Try.prog h 50 = mkAlloc h (some (#[Value.int IntKind.u8 (0), Value.int IntKind.i64 (0)] ++ ((Array.replicate 20 (Value.int IntKind.u8 (0))) ++ (#[Value.int IntKind.u64 (0), Value.int IntKind.u64 (0), Value.int IntKind.u64 (0), Value.int IntKind.u64 (0)] ++ (#[Value.int IntKind.u64 (0), Value.int IntKind.u64 (0), Value.int IntKind.u64 (0), Value.int IntKind.u64 (0)] ++ (#[Value.slice none 0 0, Value.int IntKind.u16 (0)])))))) := aalloc_eq' Try.zero50
theorem Try.zero51 : zeroCellsOf Try.prog 51 = some (#[Value.map none]) := by kernel_rfl
theorem Try.alloc51 {h : AH} : aalloc Try.prog h 51 = mkAlloc h (some (#[Value.map none])) := aalloc_eq' Try.zero51
theorem Try.zero52 : zeroCellsOf Try.prog 52 = some (#[Value.map none]) := by kernel_rfl
theorem Try.alloc52 {h : AH} : aalloc Try.prog h 52 = mkAlloc h (some (#[Value.map none])) := aalloc_eq' Try.zero52
theorem Try.zero53 : zeroCellsOf Try.prog 53 = some ((Array.replicate 20 (Value.int IntKind.u8 (0))) ++ (#[Value.bool false] ++ (#[Value.int IntKind.u64 (0), Value.int IntKind.u64 (0), Value.int IntKind.u64 (0), Value.int IntKind.u64 (0)]))) := by kernel_rfl
theorem Try.alloc53 {h : AH} : aalloc Try.prog h 53 = mkAlloc h (some ((Array.replicate 20 (Value.int IntKind.u8 (0))) ++ (#[Value.bool false] ++ (#[Value.int IntKind.u64 (0), Value.int IntKind.u64 (0), Value.int IntKind.u64 (0), Value.int IntKind.u64 (0)])))) := aalloc_eq' Try.zero53
theorem Try.zero54 : zeroCellsOf Try.prog 54 = some ((Array.replicate 20 (Value.int IntKind.u8 (0))) ++ (#[Value.bool false] ++ (#[Value.int IntKind.u64 (0), Value.int IntKind.u64 (0), Value.int IntKind.u64 (0), Value.int IntKind.u64 (0)]))) := by kernel_rfl
theorem Try.alloc54 {h : AH} : aalloc Try.prog h 54 = mkAlloc h (some ((Array.replicate 20 (Value.int IntKind.u8 (0))) ++ (#[Value.bool false] ++ (#[Value.int IntKind.u64 (0), Value.int IntKind.u64 (0), Value.int IntKind.u64 (0), Value.int IntKind.u64 (0)])))) := aalloc_eq' Try.zero54
theorem Try.zero55 : zeroCellsOf Try.prog 55 = some (#[Value.nilFunc]) := by kernel_rfl
theorem Try.alloc55 {h : AH} : aalloc Try.prog h 55 = mkAlloc h (some (#[Value.nilFunc])) := aalloc_eq' Try.zero55
theorem Try.zero56 : zeroCellsOf Try.prog 56 = some (#[Value.nilFunc]) := by kernel_rfl
theorem Try.alloc56 {h : AH} : aalloc Try.prog h 56 = mkAlloc h (some (#[Value.nilFunc])) := aalloc_eq' Try.zero56
theorem Try.zero57 : zeroCellsOf Try.prog 57 = some (#[Value.nilFunc]) := by kernel_rfl
theorem Try.alloc57 {h : AH} : aalloc Try.prog h 57 = mkAlloc h (some (#[Value.nilFunc])) := aalloc_eq' Try.zero57
theorem Try.zero58 : zeroCellsOf Try.prog 58 = some (#[Value.nilFunc]) := by kernel_rfl
theorem Try.alloc58 {h : AH} : aalloc Try.prog h 58 = mkAlloc h (some (#[Value.nilFunc])) := aalloc_eq' Try.zero58
theorem Try.zero59 : zeroCellsOf Try.prog 59 = some (#[Value.nilFunc]) := by kernel_rfl
theorem Try.alloc59 {h : AH} : aalloc Try.prog h 59 = mkAlloc h (some (#[Value.nilFunc])) := aalloc_eq' Try.zero59
theorem Try.zero60 : zeroCellsOf Try.prog 60 = some (#[Value.nilFunc]) := by kernel_rfl
theorem Try.alloc60 {h : AH} : aalloc Try.prog h 60 = mkAlloc h (some (#[Value.nilFunc])) := aalloc_eq' Try.zero60
theorem Try.zero62 : zeroCellsOf Try.prog 62 = some (#[Value.nilFunc]) := by kernel_rfl
theorem Try.alloc62 {h : AH} : aalloc Try.prog h 62 = mkAlloc h (some (#[Value.nilFunc])) := aalloc_eq' Try.zero62
theorem Try.zero63 : zeroCellsOf Try.prog 63 = some (#[Value.nilFunc]) := by kernel_rfl
theorem Try.alloc63 {h : AH} : aalloc Try.prog h 63 = mkAlloc h (some (#[Value.nilFunc])) := aalloc_eq' Try.zero63
theorem Try.zero64 : zeroCellsOf Try.prog 64 = some (#[Value.nilFunc]) := by kernel_rfl
theorem Try.alloc64 {h : AH} : aalloc Try.prog h 64 = mkAlloc h (some (#[Value.nilFunc])) := aalloc_eq' Try.zero64
theorem Try.zero65 : zeroCellsOf Try.prog 65 = some (#[Value.nilFunc]) := by kernel_rfl
theorem Try.alloc65 {h : AH} : aalloc Try.prog h 65 = mkAlloc h (some (#[Value.nilFunc])) := aalloc_eq' Try.zero65
theorem Try.zero66 : zeroCellsOf Try.prog 66 = some (#[Value.nilFunc]) := by kernel_rfl
theorem Try.alloc66 {h : AH} : aalloc Try.prog h 66 = mkAlloc h (some (#[Value.nilFunc])) := aalloc_eq' Try.zero66
theorem Try.zero67 : zeroCellsOf Try.prog 67 = some (#[Value.nilFunc]) := by kernel_rfl
theorem Try.alloc67 {h : AH} : aalloc Try.prog h 67 = mkAlloc h (some (#[Value.nilFunc])) := aalloc_eq' Try.zero67
theorem Try.zero69 : zeroCellsOf Try.prog 69 = some (#[Value.nilFunc]) := by kernel_rfl
theorem Try.alloc69 {h : AH} : aalloc Try.prog h 69 = mkAlloc h (some (#[Value.nilFunc])) := aalloc_eq' Try.zero69
theorem Try.zero71 : zeroCellsOf Try.prog 71 = some (#[Value.nilFunc]) := by kernel_rfl
theorem Try.alloc71 {h : AH} : aalloc Try.prog h 71 = mkAlloc h (some (#[Value.nilFunc])) := aalloc_eq' Try.zero71
theorem Try.zero72 : zeroCellsOf Try.prog 72 = some (#[Value.nilFunc]) := by kernel_rfl
theorem Try.alloc72 {h : AH} : aalloc Try.prog h 72 = mkAlloc h (some (#[Value.nilFunc])) := aalloc_eq' Try.zero72
theorem Try.zero73 : zeroCellsOf Try.prog 73 = some (#[Value.nilFunc]) := by kernel_rfl
theorem Try.alloc73 {h : AH} : aalloc Try.prog h 73 = mkAlloc h (some (#[Value.nilFunc])) := aalloc_eq' Try.zero73
theorem Try.zero74 : zeroCellsOf Try.prog 74 = some (#[Value.slice none 0 0]) := by kernel_rfl
theorem Try.alloc74 {h : AH} : aalloc Try.prog h 74 = mkAlloc h (some (#[Value.slice none 0 0])) := aalloc_eq' Try.zero74
theorem Try.zero75 : zeroCellsOf Try.prog 75 = some (#[Value.map none]) := by kernel_rfl
theorem Try.alloc75 {h : AH} : aalloc Try.prog h 75 = mkAlloc h (some (#[Value.map none])) := aalloc_eq' Try.zero75
theorem Try.zero76 : zeroCellsOf Try.prog 76 = some (#[Value.map none]) := by kernel_rfl
theorem Try.alloc76 {h : AH} : aalloc Try.prog h 76 = mkAlloc h (some (#[Value.map none])) := aalloc_eq' Try.zero76
theorem Try.zero77 : zeroCellsOf Try.prog 77 = some (#[Value.nilFunc]) := by kernel_rfl
theorem Try.alloc77 {h : AH} : aalloc Try.prog h 77 = mkAlloc h (some (#[Value.nilFunc])) := aalloc_eq' Try.zero77
theorem Try.zero78 : zeroCellsOf Try.prog 78 = some (#[Value.nilFunc]) := by kernel_rfl
theorem Try.alloc78 {h : AH} : aalloc Try.prog h 78 = mkAlloc h (some (#[Value.nilFunc])) := aalloc_eq' Try.zero78
theorem Try.zero79 : zeroCellsOf Try.prog 79 = some (#[Value.nilFunc]) := by kernel_rfl
theorem Try.alloc79 {h : AH} : aalloc Try.prog h 79 = mkAlloc h (some (#[Value.nilFunc])) := aalloc_eq' Try.zero79
theorem Try.zero80 : zeroCellsOf Try.prog 80 = some (#[Value.nilFunc]) := by kernel_rfl
theorem Try.alloc80 {h : AH} : aalloc Try.prog h 80 = mkAlloc h (some (#[Value.nilFunc])) := aalloc_eq' Try.zero80
theorem Try.zero81 : zeroCellsOf Try.prog 81 = some (#[Value.nilFunc]) := by kernel_rfl
theorem Try.alloc81 {h : AH} : aalloc Try.prog h 81 = mkAlloc h (some (#[Value.nilFunc])) := aalloc_eq' Try.zero81
theorem Try.zero82 : zeroCellsOf Try.prog 82 = some (#[Value.nilFunc]) := by kernel_rfl
theorem Try.alloc82 {h : AH} : aalloc Try.prog h 82 = mkAlloc h (some (#[Value.nilFunc])) := aalloc_eq' Try.zero82
theorem Try.zero83 : zeroCellsOf Try.prog 83 = some (#[Value.nilFunc]) := by kernel_rfl
theorem Try.alloc83 {h : AH} : aalloc Try.prog h 83 = mkAlloc h (some (#[Value.nilFunc])) := aalloc_eq' Try.zero83
theorem Try.zero84 : zeroCellsOf Try.prog 84 = some (#[Value.nilFunc]) := by kernel_rfl
theorem Try.alloc84 {h : AH} : aalloc Try.prog h 84 = mkAlloc h (some (#[Value.nilFunc])) := aalloc_eq' Try.zero84
theorem Try.zero85 : zeroCellsOf Try.prog 85 = some (#[Value.nilFunc]) := by kernel_rfl
theorem Try.alloc85 {h : AH} : aalloc Try.prog h 85 = mkAlloc h (some (#[Value.nilFunc])) := aalloc_eq' Try.zero85
theorem Try.zero86 : zeroCellsOf Try.prog 86 = some (#[Value.nilFunc]) := by kernel_rfl
theorem Try.alloc86 {h : AH} : aalloc Try.prog h 86 = mkAlloc h (some (#[Value.nilFunc])) := aalloc_eq' Try.zero86
theorem Try.zero87 : zeroCellsOf Try.prog 87 = some (#[Value.nilFunc]) := by kernel_rfl
theorem Try.alloc87 {h : AH} : aalloc Try.prog h 87 = mkAlloc h (some (#[Value.nilFunc])) := aalloc_eq' Try.zero87
theorem Try.zero88 : zeroCellsOf Try.prog 88 = some (#[Value.nilFunc]) := by kernel_rfl
theorem Try.alloc88 {h : AH} : aalloc Try.prog h 88 = mkAlloc h (some (#[Value.nilFunc])) := aalloc_eq' Try.zero88
theorem Try.zero89 : zeroCellsOf Try.prog 89 = some (#[Value.nilFunc]) := by kernel_rfl
theorem Try.alloc89 {h : AH} : aalloc Try.prog h 89 = mkAlloc h (some (#[Value.nilFunc])) := aalloc_eq' Try.zero89
theorem Try.zero90 : zeroCellsOf Try.prog 90 = some (#[Value.nilFunc]) := by kernel_rfl
theorem Try.alloc90 {h : AH} : aalloc Try.prog h 90 = mkAlloc h (some (#[Value.nilFunc])) := aalloc_eq' Try.zero90
theorem Try.zero92 : zeroCellsOf Try.prog 92 = some (#[Value.nilFunc]) := by kernel_rfl
theorem Try.alloc92 {h : AH} : aalloc Try.prog h 92 = mkAlloc h (some (#[Value.nilFunc])) := aalloc_eq' Try.zero92
theorem Try.zero93 : zeroCellsOf Try.prog 93 = some (#[Value.nilFunc]) := by kernel_rfl
theorem Try.alloc93 {h : AH} : aalloc Try.prog h 93 = mkAlloc h (some (#[Value.nilFunc])) := aalloc_eq' Try.zero93
theorem Try.zero94 : zeroCellsOf Try.prog 94 = some (#[Value.nilFunc]) := by kernel_rfl
theorem Try.alloc94 {h : AH} : aalloc Try.prog h 94 = mkAlloc h (some (#[Value.nilFunc])) := aalloc_eq' Try.zero94
theorem Try.zero95 : zeroCellsOf Try.prog 95 = some (#[Value.nilFunc]) := by kernel_rfl
theorem Try.alloc95 {h : AH} : aalloc Try.prog h 95 = mkAlloc h (some (#[Value.nilFunc])) := aalloc_eq' Try.zero95
theorem Try.zero96 : zeroCellsOf Try.prog 96 = some (#[Value.nilFunc]) := by kernel_rfl
theorem Try.alloc96 {h : AH} : aalloc Try.prog h 96 = mkAlloc h (some (#[Value.nilFunc])) := aalloc_eq' Try.zero96
theorem Try.zero97 : zeroCellsOf Try.prog 97 = some (#[Value.nilFunc]) := by kernel_rfl
theorem Try.alloc97 {h : AH} : aalloc Try.prog h 97 = mkAlloc h (some (#[Value.nilFunc])) := aalloc_eq' Try.zero97
theorem Try.zero98 : zeroCellsOf Try.prog 98 = some (#[Value.int IntKind.u64 (0)]) := by kernel_rfl
theorem Try.alloc98 {h : AH} : aalloc Try.prog h 98 = mkAlloc h (some (#[Value.int IntKind.u64 (0)])) := aalloc_eq' Try.zero98
theorem Try.zero99 : zeroCellsOf Try.prog 99 = some (#[Value.nilFunc]) := by kernel_rfl
theorem Try.alloc99 {h : AH} : aalloc Try.prog h 99 = mkAlloc h (some (#[Value.nilFunc])) := aalloc_eq' Try.zero99
theorem Try.zero100 : zeroCellsOf Try.prog 100 = some (#[Value.nilFunc]) := by kernel_rfl
theorem Try.alloc100 {h : AH} : aalloc Try.prog h 100 = mkAlloc h (some (#[Value.nilFunc])) := aalloc_eq' Try.zero100
theorem Try.zero101 : zeroCellsOf Try.prog 101 = some (#[Value.nilFunc]) := by kernel_rfl
theorem Try.alloc101 {h : AH} : aalloc Try.prog h 101 = mkAlloc h (some (#[Value.nilFunc])) := aalloc_eq' Try.zero101
theorem Try.zero102 : zeroCellsOf Try.prog 102 = some (#[Value.int IntKind.i64 (0)]) := by kernel_rfl
theorem Try.alloc102 {h : AH} : aalloc Try.prog h 102 = mkAlloc h (some (#[Value.int IntKind.i64 (0)])) := aalloc_eq' Try.zero102
theorem Try.zero104 : zeroCellsOf Try.prog 104 = some (#[Value.nilFunc]) := by kernel_rfl
theorem Try.alloc104 {h : AH} : aalloc Try.prog h 104 = mkAlloc h (some (#[Value.nilFunc])) := aalloc_eq' Try.zero104
theorem Try.zero105 : zeroCellsOf Try.prog 105 = some (#[Value.nilFunc]) := by kernel_rfl
theorem Try.alloc105 {h : AH} : aalloc Try.prog h 105 = mkAlloc h (some (#[Value.nilFunc])) := aalloc_eq' Try.zero105
theorem Try.zero106 : zeroCellsOf Try.prog 106 = some (#[Value.nilFunc]) := by kernel_rfl
theorem Try.alloc106 {h : AH} : aalloc Try.prog h 106 = mkAlloc h (some (#[Value.nilFunc])) := aalloc_eq' Try.zero106
theorem Try.zero108 : zeroCellsOf Try.prog 108 = some (#[Value.nilFunc]) := by kernel_rfl
theorem Try.alloc108 {h : AH} : aalloc Try.prog h 108 = mkAlloc h (some (#[Value.nilFunc])) := aalloc_eq' Try.zero108
theorem Try.zero109 : zeroCellsOf Try.prog 109 = some (#[Value.nilFunc]) := by kernel_rfl
theorem Try.alloc109 {h : AH} : aalloc Try.prog h 109 = mkAlloc h (some (#[Value.nilFunc])) := aalloc_eq' Try.zero109
theorem Try.zero110 : zeroCellsOf Try.prog 110 = some (#[Value.int IntKind.u32 (0)]) := by kernel_rfl
theorem Try.alloc110 {h : AH} : aalloc Try.prog h 110 = mkAlloc h (some (#[Value.int IntKind.u32 (0)])) := aalloc_eq' Try.zero110
theorem Try.zero111 : zeroCellsOf Try.prog 111 = some (#[Value.nilFunc]) := by kernel_rfl
theorem Try.alloc111 {h : AH} : aalloc Try.prog h 111 = mkAlloc h (some (#[Value.nilFunc])) := aalloc_eq' Try.zero111
theorem Try.zero112 : zeroCellsOf Try.prog 112 = some (#[Value.int IntKind.u64 (0)]) := by kernel_rfl
theorem Try.alloc112 {h : AH} : aalloc Try.prog h 112 = mkAlloc h (some (#[Value.int IntKind.u64 (0)])) := aalloc_eq' Try.zero112
theorem Try.zero113 : zeroCellsOf Try.prog 113 = some (#[Value.nilFunc]) := by kernel_rfl
theorem Try.alloc113 {h : AH} : aalloc Try.prog h 113 = mkAlloc h (some (#[Value.nilFunc])) := aalloc_eq' Try.zero113
theorem Try.zero114 : zeroCellsOf Try.prog 114 = some (#[Value.nilFunc]) := by kernel_rfl
theorem Try.alloc114 {h : AH} : aalloc Try.prog h 114 = mkAlloc h (some (#[Value.nilFunc])) := aalloc_eq' Try.zero114
theorem Try.zero115 : zeroCellsOf Try.prog 115 = some (#[Value.nilFunc]) := by kernel_rfl
theorem Try.alloc115 {h : AH} : aalloc Try.prog h 115 = mkAlloc h (some (#[Value.nilFunc])) := aalloc_eq' Try.zero115
theorem Try.zero116 : zeroCellsOf Try.prog 116 = some (#[Value.pointer none]) := by kernel_rfl
theorem Try.alloc116 {h : AH} : aalloc Try.prog h 116 = mkAlloc h (some (#[Value.pointer none])) := aalloc_eq' Try.zero116
theorem Try.zero117 : zeroCellsOf Try.prog 117 = some (#[Value.nilFunc]) := by kernel_rfl
theorem Try.alloc117 {h : AH} : aalloc Try.prog h 117 = mkAlloc h (some (#[Value.nilFunc])) := aalloc_eq' Try.zero117
theorem Try.zero118 : zeroCellsOf Try.prog 118 = some (#[Value.pointer none]) := by kernel_rfl
theorem Try.alloc118 {h : AH} : aalloc Try.prog h 118 = mkAlloc h (some (#[Value.pointer none])) := aalloc_eq' Try.zero118
theorem Try.zero120 : zeroCellsOf Try.prog 120 = some (#[Value.nilFunc]) := by kernel_rfl
theorem Try.alloc120 {h : AH} : aalloc Try.prog h 120 = mkAlloc h (some (#[Value.nilFunc])) := aalloc_eq' Try.zero120
theorem Try.zero121 : zeroCellsOf Try.prog 121 = some (#[Value.nilFunc]) := by kernel_rfl
theorem Try.alloc121 {h : AH} : aalloc Try.prog h 121 = mkAlloc h (some (#[Value.nilFunc])) := aalloc_eq' Try.zero121
theorem Try.zero122 : zeroCellsOf Try.prog 122 = some (#[Value.pointer none, Value.pointer none, Value.pointer none, Value.string { data := { toList := [] } }]) := by kernel_rfl
theorem Try.alloc122 {h : AH} : aalloc Try.prog h 122 = mkAlloc h (some (#[Value.pointer none, Value.pointer none, Value.pointer none, Value.string { data := { toList := [] } }])) := aalloc_eq' Try.zero122
theorem Try.zero123 : zeroCellsOf Try.prog 123 = some (#[Value.pointer none, Value.pointer none, Value.pointer none, Value.string { data := { toList := [] } }]) := by kernel_rfl
theorem Try.alloc123 {h : AH} : aalloc Try.prog h 123 = mkAlloc h (some (#[Value.pointer none, Value.pointer none, Value.pointer none, Value.string { data := { toList := [] } }])) := aalloc_eq' Try.zero123
theorem Try.zero127 : zeroCellsOf Try.prog 127 = some (#[Value.nilFunc]) := by kernel_rfl
theorem Try.alloc127 {h : AH} : aalloc Try.prog h 127 = mkAlloc h (some (#[Value.nilFunc])) := aalloc_eq' Try.zero127
theorem Try.zero128 : zeroCellsOf Try.prog 128 = some (#[Value.int IntKind.u8 (0)]) := by kernel_rfl
theorem Try.alloc128 {h : AH} : aalloc Try.prog h 128 = mkAlloc h (some (#[Value.int IntKind.u8 (0)])) := aalloc_eq' Try.zero128
theorem Try.zero129 : zeroCellsOf Try.prog 129 = some (#[Value.int IntKind.u8 (0)]) := by kernel_rfl
theorem Try.alloc129 {h : AH} : aalloc Try.prog h 129 = mkAlloc h (some (#[Value.int IntKind.u8 (0)])) := aalloc_eq' Try.zero129
theorem Try.zero130 : zeroCellsOf Try.prog 130 = some (#[Value.nilFunc]) := by kernel_rfl
theorem Try.alloc130 {h : AH} : aalloc Try.prog h 130 = mkAlloc h (some (#[Value.nilFunc])) := aalloc_eq' Try.zero130
theorem Try.zero131 : zeroCellsOf Try.prog 131 = some (#[Value.pointer none]) := by kernel_rfl
theorem Try.alloc131 {h : AH} : aalloc Try.prog h 131 = mkAlloc h (some (#[Value.pointer none])) := aalloc_eq' Try.zero131
theorem Try.zero132 : zeroCellsOf Try.prog 132 = some (#[Value.int IntKind.i32 (0)]) := by kernel_rfl
theorem Try.alloc132 {h : AH} : aalloc Try.prog h 132 = mkAlloc h (some (#[Value.int IntKind.i32 (0)])) := aalloc_eq' Try.zero132
theorem Try.zero133 : zeroCellsOf Try.prog 133 = some (#[Value.int IntKind.i32 (0)]) := by kernel_rfl
theorem Try.alloc133 {h : AH} : aalloc Try.prog h 133 = mkAlloc h (some (#[Value.int IntKind.i32 (0)])) := aalloc_eq' Try.zero133
theorem Try.zero134 : zeroCellsOf Try.prog 134 = some (#[Value.int IntKind.u64 (0), Value.int IntKind.u64 (0), Value.int IntKind.u32 (0), Value.int IntKind.u8 (0), Value.int IntKind.u8 (0), Value.int IntKind.u8 (0), Value.int IntKind.u8 (0), Value.nilFunc, Value.pointer none, Value.int IntKind.i32 (0), Value.int IntKind.i32 (0)]) := by kernel_rfl
theorem Try.alloc134 {h : AH} : aalloc Try.prog h 134 = mkAlloc h (some (#[Value.int IntKind.u64 (0), Value.int IntKind.u64 (0), Value.int IntKind.u32 (0), Value.int IntKind.u8 (0), Value.int IntKind.u8 (0), Value.int IntKind.u8 (0), Value.int IntKind.u8 (0), Value.nilFunc, Value.pointer none, Value.int IntKind.i32 (0), Value.int IntKind.i32 (0)])) := aalloc_eq' Try.zero134
theorem Try.zero135 : zeroCellsOf Try.prog 135 = some (#[Value.int IntKind.u64 (0), Value.int IntKind.u64 (0), Value.int IntKind.u32 (0), Value.int IntKind.u8 (0), Value.int IntKind.u8 (0), Value.int IntKind.u8 (0), Value.int IntKind.u8 (0), Value.nilFunc, Value.pointer none, Value.int IntKind.i32 (0), Value.int IntKind.i32 (0)]) := by kernel_rfl
theorem Try.alloc135 {h : AH} : aalloc Try.prog h 135 = mkAlloc h (some (#[Value.int IntKind.u64 (0), Value.int IntKind.u64 (0), Value.int IntKind.u32 (0), Value.int IntKind.u8 (0), Value.int IntKind.u8 (0), Value.int IntKind.u8 (0), Value.int IntKind.u8 (0), Value.nilFunc, Value.pointer none, Value.int IntKind.i32 (0), Value.int IntKind.i32 (0)])) := aalloc_eq' Try.zero135
theorem Try.zero136 : zeroCellsOf Try.prog 136 = some (#[Value.pointer none]) := by kernel_rfl
theorem Try.alloc136 {h : AH} : aalloc Try.prog h 136 = mkAlloc h (some (#[Value.pointer none])) := aalloc_eq' Try.zero136
theorem Try.plc7 : plc Try.prog 7 = some [(0, 1), (1, 1), (2, 1), (3, 1)] := by kernel_rfl
theorem Try.build7 {ps : List (Nat × Value)} : abuild Try.prog 7 ps = mkBuild ps (some (#[Value.int IntKind.i64 (0), Value.int IntKind.i64 (0), Value.bool false, Value.int IntKind.u8 (0)])) (some [(0, 1), (1, 1), (2, 1), (3, 1)]) := abuild_eq' Try.zero7 Try.plc7
theorem Try.plc8 : plc Try.prog 8 = some [(0, 1), (1, 1), (2, 1), (3, 1)] := by kernel_rfl
theorem Try.build8 {ps : List (Nat × Value)} : abuild Try.prog 8 ps = mkBuild ps (some (#[Value.int IntKind.i64 (0), Value.int IntKind.i64 (0), Value.bool false, Value.int IntKind.u8 (0)])) (some [(0, 1), (1, 1), (2, 1), (3, 1)]) := abuild_eq' Try.zero8 Try.plc8
theorem Try.plc13 : plc Try.prog 13 = some [(0, 1), (1, 1)] := by kernel_rfl
theorem Try.build13 {ps : List (Nat × Value)} : abuild Try.prog 13 ps = mkBuild ps (some (#[Value.string { data := { toList := [] } }, Value.int IntKind.u64 (0)])) (some [(0, 1), (1, 1)]) := abuild_eq' Try.zero13 Try.plc13
theorem Try.plc14 : plc Try.prog 14 = some [(0, 1), (1, 1)] := by kernel_rfl
theorem Try.build14 {ps : List (Nat × Value)} : abuild Try.prog 14 ps = mkBuild ps (some (#[Value.string { data := { toList := [] } }, Value.int IntKind.u64 (0)])) (some [(0, 1), (1, 1)]) := abuild_eq' Try.zero14 Try.plc14
theorem Try.plc18 : plc Try.prog 18 = some [(0, 1)] := by kernel_rfl
theorem Try.build18 {ps : List (Nat × Value)} : abuild Try.prog 18 ps = mkBuild ps (some (#[Value.pointer none])) (some [(0, 1)]) := abuild_eq' Try.zero18 Try.plc18
theorem Try.plc19 : plc Try.prog 19 = some [(0, 1)] := by kernel_rfl
theorem Try.build19 {ps : List (Nat × Value)} : abuild Try.prog 19 ps = mkBuild ps (some (#[Value.pointer none])) (some [(0, 1)]) := abuild_eq' Try.zero19 Try.plc19
theorem Try.plc27 : plc Try.prog 27 = some [(0, 1), (1, 1)] := by kernel_rfl
theorem Try.build27 {ps : List (Nat × Value)} : abuild Try.prog 27 ps = mkBuild ps (some (#[Value.slice none 0 0, Value.slice none 0 0])) (some [(0, 1), (1, 1)]) := abuild_eq' Try.zero27 Try.plc27
theorem Try.plc28 : plc Try.prog 28 = some [(0, 1), (1, 1)] := by kernel_rfl
theorem Try.build28 {ps : List (Nat × Value)} : abuild Try.prog 28 ps = mkBuild ps (some (#[Value.slice none 0 0, Value.slice none 0 0])) (some [(0, 1), (1, 1)]) := abuild_eq' Try.zero28 Try.plc28
theorem Try.plc49 : plc Try.prog 49 = some [(0, 1), (1, 1), (2, 20), (22, 4), (26, 4), (30, 1), (31, 1)] := by kernel_rfl
theorem Try.build49 {ps : List (Nat × Value)} : abuild Try.prog 49 ps = mkBuild ps (some (#[Value.int IntKind.u8 (0), Value.int IntKind.i64 (0)] ++ ((Array.replicate 20 (Value.int IntKind.u8 (0))) ++ (#[Value.int IntKind.u64 (0), Value.int IntKind.u64 (0), Value.int IntKind.u64 (0), Value.int IntKind.u64 (0)] ++ (#[Value.int IntKind.u64 (0), Value.int IntKind.u64 (0), Value.int IntKind.u64 (0), Value.int IntKind.u64 (0)] ++ (#[Value.slice none 0 0, Value.int IntKind.u16 (0)])))))) (some [(0, 1), (1, 1), (2, 20), (22, 4), (26, 4), (30, 1), (31, 1)]) := abuild_eq' Try.zero49 Try.plc49
theorem Try.plc50 : plc Try.prog 50 = some [(0, 1), (1, 1), (2, 20), (22, 4), (26, 4), (30, 1), (31, 1)] := by kernel_rfl
theorem Try.build50 {ps : List (Nat × Value)} : abuild Try.prog 50 ps = mkBuild ps (some (#[Value.int IntKind.u8 (0), Value.int IntKind.i64 (0)] ++ ((Array.replicate 20 (Value.int IntKind.u8 (0))) ++ (#[Value.int IntKind.u64 (0), Value.int IntKind.u64 (0), Value.int IntKind.u64 (0), Value.int IntKind.u64 (0)] ++ (#[Value.int IntKind.u64 (0), Value.int IntKind.u64 (0), Value.int IntKind.u64 (0), Value.int IntKind.u64 (0)] ++ (#[Value.slice none 0 0, Value.int IntKind.u16 (0)])))))) (some [(0, 1), (1, 1), (2, 20), (22, 4), (26, 4), (30, 1), (31, 1)]) := abuild_eq' Try.zero50 Try.plc50
theorem Try.plc53 : plc Try.prog 53 = some [(0, 20), (20, 1), (21, 4)] := by kernel_rfl
theorem Try.build53 {ps : List (Nat × Value)} : abuild Try.prog 53 ps = mkBuild ps (some ((Array.replicate 20 (Value.int IntKind.u8 (0))) ++ (#[Value.bool false] ++ (#[Value.int IntKind.u64 (0), Value.int IntKind.u64 (0), Value.int IntKind.u64 (0), Value.int IntKind.u64 (0)])))) (some [(0, 20), (20, 1), (21, 4)]) := abuild_eq' Try.zero53 Try.plc53
theorem Try.plc54 : plc Try.prog 54 = some [(0, 20), (20, 1), (21, 4)] := by kernel_rfl
theorem Try.build54 {ps : List (Nat × Value)} : abuild Try.prog 54 ps = mkBuild ps (some ((Array.replicate 20 (Value.int IntKind.u8 (0))) ++ (#[Value.bool false] ++ (#[Value.int IntKind.u64 (0), Value.int IntKind.u64 (0), Value.int IntKind.u64 (0), Value.int IntKind.u64 (0)])))) (some [(0, 20), (20, 1), (21, 4)]) := abuild_eq' Try.zero54 Try.plc54
theorem Try.plc61 : plc Try.prog 61 = some [] := by kernel_rfl
theorem Try.plc122 : plc Try.prog 122 = some [(0, 1), (1, 1), (2, 1), (3, 1)] := by kernel_rfl
theorem Try.build122 {ps : List (Nat × Value)} : abuild Try.prog 122 ps = mkBuild ps (some (#[Value.pointer none, Value.pointer none, Value.pointer none, Value.string { data := { toList := [] } }])) (some [(0, 1), (1, 1), (2, 1), (3, 1)]) := abuild_eq' Try.zero122 Try.plc122
theorem Try.plc123 : plc Try.prog 123 = some [(0, 1), (1, 1), (2, 1), (3, 1)] := by kernel_rfl
theorem Try.build123 {ps : List (Nat × Value)} : abuild Try.prog 123 ps = mkBuild ps (some (#[Value.pointer none, Value.pointer none, Value.pointer none, Value.string { data := { toList := [] } }])) (some [(0, 1), (1, 1), (2, 1), (3, 1)]) := abuild_eq' Try.zero123 Try.plc123
theorem Try.plc125 : plc Try.prog 125 = some [(0, 0)] := by kernel_rfl
theorem Try.plc126 : plc Try.prog 126 = some [(0, 0)] := by kernel_rfl
theorem Try.plc134 : plc Try.prog 134 = some [(0, 1), (1, 1), (2, 1), (3, 1), (4, 1), (5, 1), (6, 1), (7, 1), (8, 1), (9, 1), (10, 1)] := by kernel_rfl
theorem Try.build134 {ps : List (Nat × Value)} : abuild Try.prog 134 ps = mkBuild ps (some (#[Value.int IntKind.u64 (0), Value.int IntKind.u64 (0), Value.int IntKind.u32 (0), Value.int IntKind.u8 (0), Value.int IntKind.u8 (0), Value.int IntKind.u8 (0), Value.int IntKind.u8 (0), Value.nilFunc, Value.pointer none, Value.int IntKind.i32 (0), Value.int IntKind.i32 (0)])) (some [(0, 1), (1, 1), (2, 1), (3, 1), (4, 1), (5, 1), (6, 1), (7, 1), (8, 1), (9, 1), (10, 1)]) := abuild_eq' Try.zero134 Try.plc134
theorem Try.plc135 : plc Try.prog 135 = some [(0, 1), (1, 1), (2, 1), (3, 1), (4, 1), (5, 1), (6, 1), (7, 1), (8, 1), (9, 1), (10, 1)] := by kernel_rfl
theorem Try.build135 {ps : List (Nat × Value)} : abuild Try.prog 135 ps = mkBuild ps (some (#[Value.int IntKind.u64 (0), Value.int IntKind.u64 (0), Value.int IntKind.u32 (0), Value.int IntKind.u8 (0), Value.int IntKind.u8 (0), Value.int IntKind.u8 (0), Value.int IntKind.u8 (0), Value.nilFunc, Value.pointer none, Value.int IntKind.i32 (0), Value.int IntKind.i32 (0)])) (some [(0, 1), (1, 1), (2, 1), (3, 1), (4, 1), (5, 1), (6, 1), (7, 1), (8, 1), (9, 1), (10, 1)]) := abuild_eq' Try.zero135 Try.plc135
theorem Try.arr32 : arr Try.prog 32 = some (20, false, 1) := by kernel_rfl
theorem Try.index32 {c : Array Value} {k : IntKind} {i : Int} : aindex Try.prog 32 (.agg c) (.int k i) = mkIndex c i (some (20, false, 1)) := aindex_eq' Try.arr32
theorem Try.indexA32 {b o : Nat} {k : IntKind} {i : Int} : aindexAddr Try.prog 32 (.pointer (some ⟨b, o, none⟩)) (.int k i) = mkIndexA b o i (some (20, false, 1)) := aindexA_eq' Try.arr32
theorem Try.indexF32 {c : Array Value} {n : Nat} {k : IntKind} {i : Int} : aindexAddr Try.prog 32 (fp c n) (.int k i) = mkIndexF c n i (some (20, false, 1)) := aindexAddr_fp Try.arr32
theorem Try.sliceF32 {h : AH} {c : Array Value} {n : Nat} {lo hi : Option Value} : aslice Try.prog h 32 (fp c n) lo hi = mkSliceF c n lo hi (some (20, false, 1)) := aslice_fp Try.arr32
theorem Try.arrptrZ32 {c : Array Value} {n : Nat} : aarrayPtr Try.prog 32 (fz c n) = if 20 ≤ n ∧ 0 < n then some (fp c 0) else none := aarr_fz Try.arr32
theorem Try.lenA32 {h : AH} {x : Value} : alen Try.prog h 32 x = some (.int .i64 20) := alenA_eq' Try.arr32
theorem Try.sliceA32 {h : AH} {b o : Nat} {lo hi : Option Value} : aslice Try.prog h 32 (.pointer (some ⟨b, o, none⟩)) lo hi = mkSliceA b o lo hi (some (20, false, 1)) := asliceA_eq' Try.arr32
theorem Try.arrptr32 {b o l c : Nat} : aarrayPtr Try.prog 32 (.slice (some ⟨b, o, none⟩) l c) = mkArrPtr b o l (some (20, false, 1)) := aarr_eq' Try.arr32
theorem Try.buildA32 {ps : List (Nat × Value)} : abuild Try.prog 32 ps = mkBuildA ps (some ((Array.replicate 20 (Value.int IntKind.u8 (0))))) (some (20, false, 1)) := abuildA_eq' Try.zero32 Try.arr32
theorem Try.arr33 : arr Try.prog 33 = some (20, false, 1) := by kernel_rfl
theorem Try.index33 {c : Array Value} {k : IntKind} {i : Int} : aindex Try.prog 33 (.agg c) (.int k i) = mkIndex c i (some (20, false, 1)) := aindex_eq' Try.arr33
theorem Try.indexA33 {b o : Nat} {k : IntKind} {i : Int} : aindexAddr Try.prog 33 (.pointer (some ⟨b, o, none⟩)) (.int k i) = mkIndexA b o i (some (20, false, 1)) := aindexA_eq' Try.arr33
theorem Try.indexF33 {c : Array Value} {n : Nat} {k : IntKind} {i : Int} : aindexAddr Try.prog 33 (fp c n) (.int k i) = mkIndexF c n i (some (20, false, 1)) := aindexAddr_fp Try.arr33
theorem Try.sliceF33 {h : AH} {c : Array Value} {n : Nat} {lo hi : Option Value} : aslice Try.prog h 33 (fp c n) lo hi = mkSliceF c n lo hi (some (20, false, 1)) := aslice_fp Try.arr33
theorem Try.arrptrZ33 {c : Array Value} {n : Nat} : aarrayPtr Try.prog 33 (fz c n) = if 20 ≤ n ∧ 0 < n then some (fp c 0) else none := aarr_fz Try.arr33
theorem Try.lenA33 {h : AH} {x : Value} : alen Try.prog h 33 x = some (.int .i64 20) := alenA_eq' Try.arr33
theorem Try.sliceA33 {h : AH} {b o : Nat} {lo hi : Option Value} : aslice Try.prog h 33 (.pointer (some ⟨b, o, none⟩)) lo hi = mkSliceA b o lo hi (some (20, false, 1)) := asliceA_eq' Try.arr33
theorem Try.arrptr33 {b o l c : Nat} : aarrayPtr Try.prog 33 (.slice (some ⟨b, o, none⟩) l c) = mkArrPtr b o l (some (20, false, 1)) := aarr_eq' Try.arr33
theorem Try.buildA33 {ps : List (Nat × Value)} : abuild Try.prog 33 ps = mkBuildA ps (some ((Array.replicate 20 (Value.int IntKind.u8 (0))))) (some (20, false, 1)) := abuildA_eq' Try.zero33 Try.arr33
theorem Try.arr35 : arr Try.prog 35 = some (4, false, 1) := by kernel_rfl
theorem Try.index35 {c : Array Value} {k : IntKind} {i : Int} : aindex Try.prog 35 (.agg c) (.int k i) = mkIndex c i (some (4, false, 1)) := aindex_eq' Try.arr35
theorem Try.indexA35 {b o : Nat} {k : IntKind} {i : Int} : aindexAddr Try.prog 35 (.pointer (some ⟨b, o, none⟩)) (.int k i) = mkIndexA b o i (some (4, false, 1)) := aindexA_eq' Try.arr35
theorem Try.indexF35 {c : Array Value} {n : Nat} {k : IntKind} {i : Int} : aindexAddr Try.prog 35 (fp c n) (.int k i) = mkIndexF c n i (some (4, false, 1)) := aindexAddr_fp Try.arr35
theorem Try.sliceF35 {h : AH} {c : Array Value} {n : Nat} {lo hi : Option Value} : aslice Try.prog h 35 (fp c n) lo hi = mkSliceF c n lo hi (some (4, false, 1)) := aslice_fp Try.arr35
theorem Try.arrptrZ35 {c : Array Value} {n : Nat} : aarrayPtr Try.prog 35 (fz c n) = if 4 ≤ n ∧ 0 < n then some (fp c 0) else none := aarr_fz Try.arr35
theorem Try.lenA35 {h : AH} {x : Value} : alen Try.prog h 35 x = some (.int .i64 4) := alenA_eq' Try.arr35
theorem Try.sliceA35 {h : AH} {b o : Nat} {lo hi : Option Value} : aslice Try.prog h 35 (.pointer (some ⟨b, o, none⟩)) lo hi = mkSliceA b o lo hi (some (4, false, 1)) := asliceA_eq' Try.arr35
theorem Try.arrptr35 {b o l c : Nat} : aarrayPtr Try.prog 35 (.slice (some ⟨b, o, none⟩) l c) = mkArrPtr b o l (some (4, false, 1)) := aarr_eq' Try.arr35
theorem Try.buildA35 {ps : List (Nat × Value)} : abuild Try.prog 35 ps = mkBuildA ps (some (#[Value.int IntKind.u64 (0), Value.int IntKind.u64 (0), Value.int IntKind.u64 (0), Value.int IntKind.u64 (0)])) (some (4, false, 1)) := abuildA_eq' Try.zero35 Try.arr35
theorem Try.arr36 : arr Try.prog 36 = some (4, false, 1) := by kernel_rfl
theorem Try.index36 {c : Array Value} {k : IntKind} {i : Int} : aindex Try.prog 36 (.agg c) (.int k i) = mkIndex c i (some (4, false, 1)) := aindex_eq' Try.arr36
theorem Try.indexA36 {b o : Nat} {k : IntKind} {i : Int} : aindexAddr Try.prog 36 (.pointer (some ⟨b, o, none⟩)) (.int k i) = mkIndexA b o i (some (4, false, 1)) := aindexA_eq' Try.arr36
theorem Try.indexF36 {c : Array Value} {n : Nat} {k : IntKind} {i : Int} : aindexAddr Try.prog 36 (fp c n) (.int k i) = mkIndexF c n i (some (4, false, 1)) := aindexAddr_fp Try.arr36
theorem Try.sliceF36 {h : AH} {c : Array Value} {n : Nat} {lo hi : Option Value} : aslice Try.prog h 36 (fp c n) lo hi = mkSliceF c n lo hi (some (4, false, 1)) := aslice_fp Try.arr36
theorem Try.arrptrZ36 {c : Array Value} {n : Nat} : aarrayPtr Try.prog 36 (fz c n) = if 4 ≤ n ∧ 0 < n then some (fp c 0) else none := aarr_fz Try.arr36
theorem Try.lenA36 {h : AH} {x : Value} : alen Try.prog h 36 x = some (.int .i64 4) := alenA_eq' Try.arr36
theorem Try.sliceA36 {h : AH} {b o : Nat} {lo hi : Option Value} : aslice Try.prog h 36 (.pointer (some ⟨b, o, none⟩)) lo hi = mkSliceA b o lo hi (some (4, false, 1)) := asliceA_eq' Try.arr36
theorem Try.arrptr36 {b o l c : Nat} : aarrayPtr Try.prog 36 (.slice (some ⟨b, o, none⟩) l c) = mkArrPtr b o l (some (4, false, 1)) := aarr_eq' Try.arr36
theorem Try.buildA36 {ps : List (Nat × Value)} : abuild Try.prog 36 ps = mkBuildA ps (some (#[Value.int IntKind.u64 (0), Value.int IntKind.u64 (0), Value.int IntKind.u64 (0), Value.int IntKind.u64 (0)])) (some (4, false, 1)) := abuildA_eq' Try.zero36 Try.arr36
theorem Try.arr124 : arr Try.prog 124 = some (0, false, 1) := by kernel_rfl
theorem Try.index124 {c : Array Value} {k : IntKind} {i : Int} : aindex Try.prog 124 (.agg c) (.int k i) = mkIndex c i (some (0, false, 1)) := aindex_eq' Try.arr124
theorem Try.indexA124 {b o : Nat} {k : IntKind} {i : Int} : aindexAddr Try.prog 124 (.pointer (some ⟨b, o, none⟩)) (.int k i) = mkIndexA b o i (some (0, false, 1)) := aindexA_eq' Try.arr124
theorem Try.indexF124 {c : Array Value} {n : Nat} {k : IntKind} {i : Int} : aindexAddr Try.prog 124 (fp c n) (.int k i) = mkIndexF c n i (some (0, false, 1)) := aindexAddr_fp Try.arr124
theorem Try.sliceF124 {h : AH} {c : Array Value} {n : Nat} {lo hi : Option Value} : aslice Try.prog h 124 (fp c n) lo hi = mkSliceF c n lo hi (some (0, false, 1)) := aslice_fp Try.arr124
theorem Try.arrptrZ124 {c : Array Value} {n : Nat} : aarrayPtr Try.prog 124 (fz c n) = if 0 ≤ n ∧ 0 < n then some (fp c 0) else none := aarr_fz Try.arr124
theorem Try.lenA124 {h : AH} {x : Value} : alen Try.prog h 124 x = some (.int .i64 0) := alenA_eq' Try.arr124
theorem Try.sliceA124 {h : AH} {b o : Nat} {lo hi : Option Value} : aslice Try.prog h 124 (.pointer (some ⟨b, o, none⟩)) lo hi = mkSliceA b o lo hi (some (0, false, 1)) := asliceA_eq' Try.arr124
theorem Try.arrptr124 {b o l c : Nat} : aarrayPtr Try.prog 124 (.slice (some ⟨b, o, none⟩) l c) = mkArrPtr b o l (some (0, false, 1)) := aarr_eq' Try.arr124
theorem Try.slc22 : slc Try.prog 22 = some (true, 32, 136) := by kernel_rfl
theorem Try.indexS22 {b o l c : Nat} {k : IntKind} {i : Int} : aindexAddr Try.prog 22 (.slice (some ⟨b, o, none⟩) l c) (.int k i) = mkIndexS b o l i (some (true, 32, 136)) := aindexS_eq' Try.slc22
theorem Try.indexZ22 {c : Array Value} {n : Nat} {k : IntKind} {i : Int} : aindexAddr Try.prog 22 (fz c n) (.int k i) = mkIndexZ c n i (some (true, 32, 136)) := aindexAddr_fz Try.slc22
theorem Try.indexV22 {α : Type} {enc : α → List Value} {s : Sl α} {k : IntKind} {i : Int} : aindexAddr Try.prog 22 (slV enc s) (.int k i) = mkIndexZ (flatV enc s.l) s.l.length i (some (true, 32, 136)) := aindex_slV Try.slc22
theorem Try.lenZ22 {h : AH} {c : Array Value} {n : Nat} : alen Try.prog h 22 (fz c n) = some (.int .i64 n) := alen_fz Try.slc22
theorem Try.lenV22 {h : AH} {α : Type} {enc : α → List Value} {s : Sl α} : alen Try.prog h 22 (slV enc s) = some (.int .i64 (s.l.length : Nat)) := alen_slV Try.slc22
theorem Try.lenO22 {h : AH} {α : Type} {l : List α} {b : Nat} : alen Try.prog h 22 (outV b l) = some (.int .i64 (l.length : Nat)) := alen_outV Try.slc22
theorem Try.indexO22 {α : Type} {l : List α} {b : Nat} {k : IntKind} {i : Int} : aindexAddr Try.prog 22 (outV b l) (.int k i) = if 0 ≤ i ∧ i < l.length then some (.pointer (some ⟨b, i.toNat * 32, none⟩)) else none := aindex_outV Try.slc22
theorem Try.sliceV22 {h : AH} {α : Type} {enc : α → List Value} {s : Sl α} {lo hi : Option Value} (hm : ∀ x, (enc x).length = 32) : aslice Try.prog h 22 (slV enc s) lo hi = (abounds s.l.length s.l.length lo hi).map fun p => slV enc (s.piece p.1 p.2) := aslice_slV Try.slc22 hm
theorem Try.sliceZ22 {h : AH} {c : Array Value} {n : Nat} {lo hi : Option Value} : aslice Try.prog h 22 (fz c n) lo hi = mkSliceZ c n lo hi (some (true, 32, 136)) := aslice_fz Try.slc22
theorem Try.len22 {h : AH} {a : Option Addr} {l c : Nat} : alen Try.prog h 22 (.slice a l c) = some (.int .i64 l) := alen_eq' Try.slc22
theorem Try.sliceS22 {h : AH} {b o l c : Nat} {lo hi : Option Value} : aslice Try.prog h 22 (.slice (some ⟨b, o, none⟩) l c) lo hi = mkSliceS b o l c lo hi (some (true, 32, 136)) h[b]? := asliceS_eq' Try.slc22
theorem Try.sliceN22 {h : AH} {lo hi : Option Value} : aslice Try.prog h 22 (.slice none 0 0) lo hi = (abounds 0 0 lo hi).map fun _ => .slice none 0 0 := asliceN_eq' Try.slc22
theorem Try.slz22 : slz Try.prog 22 = some (#[Value.int IntKind.u8 (0), Value.int IntKind.i64 (0)] ++ ((Array.replicate 20 (Value.int IntKind.u8 (0))) ++ (#[Value.int IntKind.u64 (0), Value.int IntKind.u64 (0), Value.int IntKind.u64 (0), Value.int IntKind.u64 (0)] ++ (#[Value.int IntKind.u64 (0), Value.int IntKind.u64 (0), Value.int IntKind.u64 (0), Value.int IntKind.u64 (0)] ++ (#[Value.slice none 0 0, Value.int IntKind.u16 (0)]))))) := by kernel_rfl
theorem Try.buildS22 {h : AH} {n : Nat} {ps : List (Nat × Value)} : abuildSlice Try.prog h 22 n ps = mkBuildS h n ps (some (#[Value.int IntKind.u8 (0), Value.int IntKind.i64 (0)] ++ ((Array.replicate 20 (Value.int IntKind.u8 (0))) ++ (#[Value.int IntKind.u64 (0), Value.int IntKind.u64 (0), Value.int IntKind.u64 (0), Value.int IntKind.u64 (0)] ++ (#[Value.int IntKind.u64 (0), Value.int IntKind.u64 (0), Value.int IntKind.u64 (0), Value.int IntKind.u64 (0)] ++ (#[Value.slice none 0 0, Value.int IntKind.u16 (0)])))))) := abuildS_eq' Try.slz22
theorem Try.make22 {h : AH} {i n : Int} : amakeSlice Try.prog h 22 (.int .i64 i) (.int .i64 n) = mkMake h i n (some (true, 32, 136)) (some (#[Value.int IntKind.u8 (0), Value.int IntKind.i64 (0)] ++ ((Array.replicate 20 (Value.int IntKind.u8 (0))) ++ (#[Value.int IntKind.u64 (0), Value.int IntKind.u64 (0), Value.int IntKind.u64 (0), Value.int IntKind.u64 (0)] ++ (#[Value.int IntKind.u64 (0), Value.int IntKind.u64 (0), Value.int IntKind.u64 (0), Value.int IntKind.u64 (0)] ++ (#[Value.slice none 0 0, Value.int IntKind.u16 (0)])))))) := amake_eq' Try.slc22 Try.slz22
theorem Try.append22 {h : AH} {u : TypeId} {s x : Value} (hn : nint Try.prog u = true) : aappend Try.prog h 22 u s x = orT (mkApp h s (some (true, 32, 136)) (mkSrc h x (some (true, 32, 136)) true)) (aappendT Try.prog h 22 u s x) := aappend_eq' Try.slc22 Try.slz22 hn
theorem Try.slc26 : slc Try.prog 26 = some (true, 25, 56) := by kernel_rfl
theorem Try.indexS26 {b o l c : Nat} {k : IntKind} {i : Int} : aindexAddr Try.prog 26 (.slice (some ⟨b, o, none⟩) l c) (.int k i) = mkIndexS b o l i (some (true, 25, 56)) := aindexS_eq' Try.slc26
theorem Try.indexZ26 {c : Array Value} {n : Nat} {k : IntKind} {i : Int} : aindexAddr Try.prog 26 (fz c n) (.int k i) = mkIndexZ c n i (some (true, 25, 56)) := aindexAddr_fz Try.slc26
theorem Try.indexV26 {α : Type} {enc : α → List Value} {s : Sl α} {k : IntKind} {i : Int} : aindexAddr Try.prog 26 (slV enc s) (.int k i) = mkIndexZ (flatV enc s.l) s.l.length i (some (true, 25, 56)) := aindex_slV Try.slc26
theorem Try.lenZ26 {h : AH} {c : Array Value} {n : Nat} : alen Try.prog h 26 (fz c n) = some (.int .i64 n) := alen_fz Try.slc26
theorem Try.lenV26 {h : AH} {α : Type} {enc : α → List Value} {s : Sl α} : alen Try.prog h 26 (slV enc s) = some (.int .i64 (s.l.length : Nat)) := alen_slV Try.slc26
theorem Try.lenO26 {h : AH} {α : Type} {l : List α} {b : Nat} : alen Try.prog h 26 (outV b l) = some (.int .i64 (l.length : Nat)) := alen_outV Try.slc26
theorem Try.indexO26 {α : Type} {l : List α} {b : Nat} {k : IntKind} {i : Int} : aindexAddr Try.prog 26 (outV b l) (.int k i) = if 0 ≤ i ∧ i < l.length then some (.pointer (some ⟨b, i.toNat * 25, none⟩)) else none := aindex_outV Try.slc26
theorem Try.sliceV26 {h : AH} {α : Type} {enc : α → List Value} {s : Sl α} {lo hi : Option Value} (hm : ∀ x, (enc x).length = 25) : aslice Try.prog h 26 (slV enc s) lo hi = (abounds s.l.length s.l.length lo hi).map fun p => slV enc (s.piece p.1 p.2) := aslice_slV Try.slc26 hm
theorem Try.sliceZ26 {h : AH} {c : Array Value} {n : Nat} {lo hi : Option Value} : aslice Try.prog h 26 (fz c n) lo hi = mkSliceZ c n lo hi (some (true, 25, 56)) := aslice_fz Try.slc26
theorem Try.len26 {h : AH} {a : Option Addr} {l c : Nat} : alen Try.prog h 26 (.slice a l c) = some (.int .i64 l) := alen_eq' Try.slc26
theorem Try.sliceS26 {h : AH} {b o l c : Nat} {lo hi : Option Value} : aslice Try.prog h 26 (.slice (some ⟨b, o, none⟩) l c) lo hi = mkSliceS b o l c lo hi (some (true, 25, 56)) h[b]? := asliceS_eq' Try.slc26
theorem Try.sliceN26 {h : AH} {lo hi : Option Value} : aslice Try.prog h 26 (.slice none 0 0) lo hi = (abounds 0 0 lo hi).map fun _ => .slice none 0 0 := asliceN_eq' Try.slc26
theorem Try.slz26 : slz Try.prog 26 = some ((Array.replicate 20 (Value.int IntKind.u8 (0))) ++ (#[Value.bool false] ++ (#[Value.int IntKind.u64 (0), Value.int IntKind.u64 (0), Value.int IntKind.u64 (0), Value.int IntKind.u64 (0)]))) := by kernel_rfl
theorem Try.buildS26 {h : AH} {n : Nat} {ps : List (Nat × Value)} : abuildSlice Try.prog h 26 n ps = mkBuildS h n ps (some ((Array.replicate 20 (Value.int IntKind.u8 (0))) ++ (#[Value.bool false] ++ (#[Value.int IntKind.u64 (0), Value.int IntKind.u64 (0), Value.int IntKind.u64 (0), Value.int IntKind.u64 (0)])))) := abuildS_eq' Try.slz26
theorem Try.make26 {h : AH} {i n : Int} : amakeSlice Try.prog h 26 (.int .i64 i) (.int .i64 n) = mkMake h i n (some (true, 25, 56)) (some ((Array.replicate 20 (Value.int IntKind.u8 (0))) ++ (#[Value.bool false] ++ (#[Value.int IntKind.u64 (0), Value.int IntKind.u64 (0), Value.int IntKind.u64 (0), Value.int IntKind.u64 (0)])))) := amake_eq' Try.slc26 Try.slz26
theorem Try.append26 {h : AH} {u : TypeId} {s x : Value} (hn : nint Try.prog u = true) : aappend Try.prog h 26 u s x = orT (mkApp h s (some (true, 25, 56)) (mkSrc h x (some (true, 25, 56)) true)) (aappendT Try.prog h 26 u s x) := aappend_eq' Try.slc26 Try.slz26 hn
theorem Try.slc39 : slc Try.prog 39 = some (false, 1, 8) := by kernel_rfl
theorem Try.indexS39 {b o l c : Nat} {k : IntKind} {i : Int} : aindexAddr Try.prog 39 (.slice (some ⟨b, o, none⟩) l c) (.int k i) = mkIndexS b o l i (some (false, 1, 8)) := aindexS_eq' Try.slc39
theorem Try.indexZ39 {c : Array Value} {n : Nat} {k : IntKind} {i : Int} : aindexAddr Try.prog 39 (fz c n) (.int k i) = mkIndexZ c n i (some (false, 1, 8)) := aindexAddr_fz Try.slc39
theorem Try.indexV39 {α : Type} {enc : α → List Value} {s : Sl α} {k : IntKind} {i : Int} : aindexAddr Try.prog 39 (slV enc s) (.int k i) = mkIndexZ (flatV enc s.l) s.l.length i (some (false, 1, 8)) := aindex_slV Try.slc39
theorem Try.lenZ39 {h : AH} {c : Array Value} {n : Nat} : alen Try.prog h 39 (fz c n) = some (.int .i64 n) := alen_fz Try.slc39
theorem Try.lenV39 {h : AH} {α : Type} {enc : α → List Value} {s : Sl α} : alen Try.prog h 39 (slV enc s) = some (.int .i64 (s.l.length : Nat)) := alen_slV Try.slc39
theorem Try.lenO39 {h : AH} {α : Type} {l : List α} {b : Nat} : alen Try.prog h 39 (outV b l) = some (.int .i64 (l.length : Nat)) := alen_outV Try.slc39
theorem Try.indexO39 {α : Type} {l : List α} {b : Nat} {k : IntKind} {i : Int} : aindexAddr Try.prog 39 (outV b l) (.int k i) = if 0 ≤ i ∧ i < l.length then some (.pointer (some ⟨b, i.toNat * 1, none⟩)) else none := aindex_outV Try.slc39
theorem Try.sliceV39 {h : AH} {α : Type} {enc : α → List Value} {s : Sl α} {lo hi : Option Value} (hm : ∀ x, (enc x).length = 1) : aslice Try.prog h 39 (slV enc s) lo hi = (abounds s.l.length s.l.length lo hi).map fun p => slV enc (s.piece p.1 p.2) := aslice_slV Try.slc39 hm
theorem Try.sliceZ39 {h : AH} {c : Array Value} {n : Nat} {lo hi : Option Value} : aslice Try.prog h 39 (fz c n) lo hi = mkSliceZ c n lo hi (some (false, 1, 8)) := aslice_fz Try.slc39
theorem Try.len39 {h : AH} {a : Option Addr} {l c : Nat} : alen Try.prog h 39 (.slice a l c) = some (.int .i64 l) := alen_eq' Try.slc39
theorem Try.sliceS39 {h : AH} {b o l c : Nat} {lo hi : Option Value} : aslice Try.prog h 39 (.slice (some ⟨b, o, none⟩) l c) lo hi = mkSliceS b o l c lo hi (some (false, 1, 8)) h[b]? := asliceS_eq' Try.slc39
theorem Try.sliceN39 {h : AH} {lo hi : Option Value} : aslice Try.prog h 39 (.slice none 0 0) lo hi = (abounds 0 0 lo hi).map fun _ => .slice none 0 0 := asliceN_eq' Try.slc39
theorem Try.slz39 : slz Try.prog 39 = some (#[Value.int IntKind.i64 (0)]) := by kernel_rfl
theorem Try.buildS39 {h : AH} {n : Nat} {ps : List (Nat × Value)} : abuildSlice Try.prog h 39 n ps = mkBuildS h n ps (some (#[Value.int IntKind.i64 (0)])) := abuildS_eq' Try.slz39
theorem Try.make39 {h : AH} {i n : Int} : amakeSlice Try.prog h 39 (.int .i64 i) (.int .i64 n) = mkMake h i n (some (false, 1, 8)) (some (#[Value.int IntKind.i64 (0)])) := amake_eq' Try.slc39 Try.slz39
theorem Try.append39 {h : AH} {u : TypeId} {s x : Value} (hn : nint Try.prog u = true) : aappend Try.prog h 39 u s x = orT (mkApp h s (some (false, 1, 8)) (mkSrc h x (some (false, 1, 8)) true)) (aappendT Try.prog h 39 u s x) := aappend_eq' Try.slc39 Try.slz39 hn
theorem Try.slc42 : slc Try.prog 42 = some (true, 2, 48) := by kernel_rfl
theorem Try.indexS42 {b o l c : Nat} {k : IntKind} {i : Int} : aindexAddr Try.prog 42 (.slice (some ⟨b, o, none⟩) l c) (.int k i) = mkIndexS b o l i (some (true, 2, 48)) := aindexS_eq' Try.slc42
theorem Try.indexZ42 {c : Array Value} {n : Nat} {k : IntKind} {i : Int} : aindexAddr Try.prog 42 (fz c n) (.int k i) = mkIndexZ c n i (some (true, 2, 48)) := aindexAddr_fz Try.slc42
theorem Try.indexV42 {α : Type} {enc : α → List Value} {s : Sl α} {k : IntKind} {i : Int} : aindexAddr Try.prog 42 (slV enc s) (.int k i) = mkIndexZ (flatV enc s.l) s.l.length i (some (true, 2, 48)) := aindex_slV Try.slc42
theorem Try.lenZ42 {h : AH} {c : Array Value} {n : Nat} : alen Try.prog h 42 (fz c n) = some (.int .i64 n) := alen_fz Try.slc42
theorem Try.lenV42 {h : AH} {α : Type} {enc : α → List Value} {s : Sl α} : alen Try.prog h 42 (slV enc s) = some (.int .i64 (s.l.length : Nat)) := alen_slV Try.slc42
theorem Try.lenO42 {h : AH} {α : Type} {l : List α} {b : Nat} : alen Try.prog h 42 (outV b l) = some (.int .i64 (l.length : Nat)) := alen_outV Try.slc42
theorem Try.indexO42 {α : Type} {l : List α} {b : Nat} {k : IntKind} {i : Int} : aindexAddr Try.prog 42 (outV b l) (.int k i) = if 0 ≤ i ∧ i < l.length then some (.pointer (some ⟨b, i.toNat * 2, none⟩)) else none := aindex_outV Try.slc42
theorem Try.sliceV42 {h : AH} {α : Type} {enc : α → List Value} {s : Sl α} {lo hi : Option Value} (hm : ∀ x, (enc x).length = 2) : aslice Try.prog h 42 (slV enc s) lo hi = (abounds s.l.length s.l.length lo hi).map fun p => slV enc (s.piece p.1 p.2) := aslice_slV Try.slc42 hm
theorem Try.sliceZ42 {h : AH} {c : Array Value} {n : Nat} {lo hi : Option Value} : aslice Try.prog h 42 (fz c n) lo hi = mkSliceZ c n lo hi (some (true, 2, 48)) := aslice_fz Try.slc42
theorem Try.len42 {h : AH} {a : Option Addr} {l c : Nat} : alen Try.prog h 42 (.slice a l c) = some (.int .i64 l) := alen_eq' Try.slc42
theorem Try.sliceS42 {h : AH} {b o l c : Nat} {lo hi : Option Value} : aslice Try.prog h 42 (.slice (some ⟨b, o, none⟩) l c) lo hi = mkSliceS b o l c lo hi (some (true, 2, 48)) h[b]? := asliceS_eq' Try.slc42
theorem Try.sliceN42 {h : AH} {lo hi : Option Value} : aslice Try.prog h 42 (.slice none 0 0) lo hi = (abounds 0 0 lo hi).map fun _ => .slice none 0 0 := asliceN_eq' Try.slc42
theorem Try.slz42 : slz Try.prog 42 = some (#[Value.slice none 0 0, Value.slice none 0 0]) := by kernel_rfl
theorem Try.buildS42 {h : AH} {n : Nat} {ps : List (Nat × Value)} : abuildSlice Try.prog h 42 n ps = mkBuildS h n ps (some (#[Value.slice none 0 0, Value.slice none 0 0])) := abuildS_eq' Try.slz42
theorem Try.make42 {h : AH} {i n : Int} : amakeSlice Try.prog h 42 (.int .i64 i) (.int .i64 n) = mkMake h i n (some (true, 2, 48)) (some (#[Value.slice none 0 0, Value.slice none 0 0])) := amake_eq' Try.slc42 Try.slz42
theorem Try.append42 {h : AH} {u : TypeId} {s x : Value} (hn : nint Try.prog u = true) : aappend Try.prog h 42 u s x = orT (mkApp h s (some (true, 2, 48)) (mkSrc h x (some (true, 2, 48)) true)) (aappendT Try.prog h 42 u s x) := aappend_eq' Try.slc42 Try.slz42 hn
theorem Try.slc46 : slc Try.prog 46 = some (false, 1, 1) := by kernel_rfl
theorem Try.indexS46 {b o l c : Nat} {k : IntKind} {i : Int} : aindexAddr Try.prog 46 (.slice (some ⟨b, o, none⟩) l c) (.int k i) = mkIndexS b o l i (some (false, 1, 1)) := aindexS_eq' Try.slc46
theorem Try.indexZ46 {c : Array Value} {n : Nat} {k : IntKind} {i : Int} : aindexAddr Try.prog 46 (fz c n) (.int k i) = mkIndexZ c n i (some (false, 1, 1)) := aindexAddr_fz Try.slc46
theorem Try.indexV46 {α : Type} {enc : α → List Value} {s : Sl α} {k : IntKind} {i : Int} : aindexAddr Try.prog 46 (slV enc s) (.int k i) = mkIndexZ (flatV enc s.l) s.l.length i (some (false, 1, 1)) := aindex_slV Try.slc46
theorem Try.lenZ46 {h : AH} {c : Array Value} {n : Nat} : alen Try.prog h 46 (fz c n) = some (.int .i64 n) := alen_fz Try.slc46
theorem Try.lenV46 {h : AH} {α : Type} {enc : α → List Value} {s : Sl α} : alen Try.prog h 46 (slV enc s) = some (.int .i64 (s.l.length : Nat)) := alen_slV Try.slc46
theorem Try.lenO46 {h : AH} {α : Type} {l : List α} {b : Nat} : alen Try.prog h 46 (outV b l) = some (.int .i64 (l.length : Nat)) := alen_outV Try.slc46
theorem Try.indexO46 {α : Type} {l : List α} {b : Nat} {k : IntKind} {i : Int} : aindexAddr Try.prog 46 (outV b l) (.int k i) = if 0 ≤ i ∧ i < l.length then some (.pointer (some ⟨b, i.toNat * 1, none⟩)) else none := aindex_outV Try.slc46
theorem Try.sliceV46 {h : AH} {α : Type} {enc : α → List Value} {s : Sl α} {lo hi : Option Value} (hm : ∀ x, (enc x).length = 1) : aslice Try.prog h 46 (slV enc s) lo hi = (abounds s.l.length s.l.length lo hi).map fun p => slV enc (s.piece p.1 p.2) := aslice_slV Try.slc46 hm
theorem Try.sliceZ46 {h : AH} {c : Array Value} {n : Nat} {lo hi : Option Value} : aslice Try.prog h 46 (fz c n) lo hi = mkSliceZ c n lo hi (some (false, 1, 1)) := aslice_fz Try.slc46
theorem Try.len46 {h : AH} {a : Option Addr} {l c : Nat} : alen Try.prog h 46 (.slice a l c) = some (.int .i64 l) := alen_eq' Try.slc46
theorem Try.sliceS46 {h : AH} {b o l c : Nat} {lo hi : Option Value} : aslice Try.prog h 46 (.slice (some ⟨b, o, none⟩) l c) lo hi = mkSliceS b o l c lo hi (some (false, 1, 1)) h[b]? := asliceS_eq' Try.slc46
theorem Try.sliceN46 {h : AH} {lo hi : Option Value} : aslice Try.prog h 46 (.slice none 0 0) lo hi = (abounds 0 0 lo hi).map fun _ => .slice none 0 0 := asliceN_eq' Try.slc46
theorem Try.slz46 : slz Try.prog 46 = some (#[Value.int IntKind.u8 (0)]) := by kernel_rfl
theorem Try.buildS46 {h : AH} {n : Nat} {ps : List (Nat × Value)} : abuildSlice Try.prog h 46 n ps = mkBuildS h n ps (some (#[Value.int IntKind.u8 (0)])) := abuildS_eq' Try.slz46
theorem Try.make46 {h : AH} {i n : Int} : amakeSlice Try.prog h 46 (.int .i64 i) (.int .i64 n) = mkMake h i n (some (false, 1, 1)) (some (#[Value.int IntKind.u8 (0)])) := amake_eq' Try.slc46 Try.slz46
theorem Try.append46 {h : AH} {u : TypeId} {s x : Value} (hn : nint Try.prog u = true) : aappend Try.prog h 46 u s x = orT (mkApp h s (some (false, 1, 1)) (mkSrc h x (some (false, 1, 1)) true)) (aappendT Try.prog h 46 u s x) := aappend_eq' Try.slc46 Try.slz46 hn
theorem Try.slc74 : slc Try.prog 74 = some (false, 1, 24) := by kernel_rfl
theorem Try.indexS74 {b o l c : Nat} {k : IntKind} {i : Int} : aindexAddr Try.prog 74 (.slice (some ⟨b, o, none⟩) l c) (.int k i) = mkIndexS b o l i (some (false, 1, 24)) := aindexS_eq' Try.slc74
theorem Try.indexZ74 {c : Array Value} {n : Nat} {k : IntKind} {i : Int} : aindexAddr Try.prog 74 (fz c n) (.int k i) = mkIndexZ c n i (some (false, 1, 24)) := aindexAddr_fz Try.slc74
theorem Try.indexV74 {α : Type} {enc : α → List Value} {s : Sl α} {k : IntKind} {i : Int} : aindexAddr Try.prog 74 (slV enc s) (.int k i) = mkIndexZ (flatV enc s.l) s.l.length i (some (false, 1, 24)) := aindex_slV Try.slc74
theorem Try.lenZ74 {h : AH} {c : Array Value} {n : Nat} : alen Try.prog h 74 (fz c n) = some (.int .i64 n) := alen_fz Try.slc74
theorem Try.lenV74 {h : AH} {α : Type} {enc : α → List Value} {s : Sl α} : alen Try.prog h 74 (slV enc s) = some (.int .i64 (s.l.length : Nat)) := alen_slV Try.slc74
theorem Try.lenO74 {h : AH} {α : Type} {l : List α} {b : Nat} : alen Try.prog h 74 (outV b l) = some (.int .i64 (l.length : Nat)) := alen_outV Try.slc74
theorem Try.indexO74 {α : Type} {l : List α} {b : Nat} {k : IntKind} {i : Int} : aindexAddr Try.prog 74 (outV b l) (.int k i) = if 0 ≤ i ∧ i < l.length then some (.pointer (some ⟨b, i.toNat * 1, none⟩)) else none := aindex_outV Try.slc74
theorem Try.sliceV74 {h : AH} {α : Type} {enc : α → List Value} {s : Sl α} {lo hi : Option Value} (hm : ∀ x, (enc x).length = 1) : aslice Try.prog h 74 (slV enc s) lo hi = (abounds s.l.length s.l.length lo hi).map fun p => slV enc (s.piece p.1 p.2) := aslice_slV Try.slc74 hm
theorem Try.sliceZ74 {h : AH} {c : Array Value} {n : Nat} {lo hi : Option Value} : aslice Try.prog h 74 (fz c n) lo hi = mkSliceZ c n lo hi (some (false, 1, 24)) := aslice_fz Try.slc74
theorem Try.len74 {h : AH} {a : Option Addr} {l c : Nat} : alen Try.prog h 74 (.slice a l c) = some (.int .i64 l) := alen_eq' Try.slc74
theorem Try.sliceS74 {h : AH} {b o l c : Nat} {lo hi : Option Value} : aslice Try.prog h 74 (.slice (some ⟨b, o, none⟩) l c) lo hi = mkSliceS b o l c lo hi (some (false, 1, 24)) h[b]? := asliceS_eq' Try.slc74
theorem Try.sliceN74 {h : AH} {lo hi : Option Value} : aslice Try.prog h 74 (.slice none 0 0) lo hi = (abounds 0 0 lo hi).map fun _ => .slice none 0 0 := asliceN_eq' Try.slc74
theorem Try.slz74 : slz Try.prog 74 = some (#[Value.slice none 0 0]) := by kernel_rfl
theorem Try.buildS74 {h : AH} {n : Nat} {ps : List (Nat × Value)} : abuildSlice Try.prog h 74 n ps = mkBuildS h n ps (some (#[Value.slice none 0 0])) := abuildS_eq' Try.slz74
theorem Try.make74 {h : AH} {i n : Int} : amakeSlice Try.prog h 74 (.int .i64 i) (.int .i64 n) = mkMake h i n (some (false, 1, 24)) (some (#[Value.slice none 0 0])) := amake_eq' Try.slc74 Try.slz74
theorem Try.append74 {h : AH} {u : TypeId} {s x : Value} (hn : nint Try.prog u = true) : aappend Try.prog h 74 u s x = orT (mkApp h s (some (false, 1, 24)) (mkSrc h x (some (false, 1, 24)) true)) (aappendT Try.prog h 74 u s x) := aappend_eq' Try.slc74 Try.slz74 hn
theorem Try.intk2 : intk Try.prog 2 = some IntKind.i64 := by kernel_rfl
theorem Try.conv2 {h : AH} {u : TypeId} {k : IntKind} {n : Int} (hs : (tyc Try.prog u).isSome = true) : aconvert Try.prog h u 2 (.int k n) = some (.int IntKind.i64 (IntKind.i64.wrap n), h) := aconvI_eq' Try.intk2 hs
theorem Try.intk3 : intk Try.prog 3 = some IntKind.i64 := by kernel_rfl
theorem Try.conv3 {h : AH} {u : TypeId} {k : IntKind} {n : Int} (hs : (tyc Try.prog u).isSome = true) : aconvert Try.prog h u 3 (.int k n) = some (.int IntKind.i64 (IntKind.i64.wrap n), h) := aconvI_eq' Try.intk3 hs
theorem Try.intk5 : intk Try.prog 5 = some IntKind.u8 := by kernel_rfl
theorem Try.conv5 {h : AH} {u : TypeId} {k : IntKind} {n : Int} (hs : (tyc Try.prog u).isSome = true) : aconvert Try.prog h u 5 (.int k n) = some (.int IntKind.u8 (IntKind.u8.wrap n), h) := aconvI_eq' Try.intk5 hs
theorem Try.intk6 : intk Try.prog 6 = some IntKind.u8 := by kernel_rfl
theorem Try.conv6 {h : AH} {u : TypeId} {k : IntKind} {n : Int} (hs : (tyc Try.prog u).isSome = true) : aconvert Try.prog h u 6 (.int k n) = some (.int IntKind.u8 (IntKind.u8.wrap n), h) := aconvI_eq' Try.intk6 hs
theorem Try.intk12 : intk Try.prog 12 = some IntKind.u64 := by kernel_rfl
theorem Try.conv12 {h : AH} {u : TypeId} {k : IntKind} {n : Int} (hs : (tyc Try.prog u).isSome = true) : aconvert Try.prog h u 12 (.int k n) = some (.int IntKind.u64 (IntKind.u64.wrap n), h) := aconvI_eq' Try.intk12 hs
theorem Try.intk21 : intk Try.prog 21 = some IntKind.i32 := by kernel_rfl
theorem Try.conv21 {h : AH} {u : TypeId} {k : IntKind} {n : Int} (hs : (tyc Try.prog u).isSome = true) : aconvert Try.prog h u 21 (.int k n) = some (.int IntKind.i32 (IntKind.i32.wrap n), h) := aconvI_eq' Try.intk21 hs
theorem Try.intk34 : intk Try.prog 34 = some IntKind.u64 := by kernel_rfl
theorem Try.conv34 {h : AH} {u : TypeId} {k : IntKind} {n : Int} (hs : (tyc Try.prog u).isSome = true) : aconvert Try.prog h u 34 (.int k n) = some (.int IntKind.u64 (IntKind.u64.wrap n), h) := aconvI_eq' Try.intk34 hs
theorem Try.intk47 : intk Try.prog 47 = some IntKind.u16 := by kernel_rfl
theorem Try.conv47 {h : AH} {u : TypeId} {k : IntKind} {n : Int} (hs : (tyc Try.prog u).isSome = true) : aconvert Try.prog h u 47 (.int k n) = some (.int IntKind.u16 (IntKind.u16.wrap n), h) := aconvI_eq' Try.intk47 hs
theorem Try.intk48 : intk Try.prog 48 = some IntKind.u16 := by kernel_rfl
theorem Try.conv48 {h : AH} {u : TypeId} {k : IntKind} {n : Int} (hs : (tyc Try.prog u).isSome = true) : aconvert Try.prog h u 48 (.int k n) = some (.int IntKind.u16 (IntKind.u16.wrap n), h) := aconvI_eq' Try.intk48 hs
theorem Try.intk98 : intk Try.prog 98 = some IntKind.u64 := by kernel_rfl
theorem Try.conv98 {h : AH} {u : TypeId} {k : IntKind} {n : Int} (hs : (tyc Try.prog u).isSome = true) : aconvert Try.prog h u 98 (.int k n) = some (.int IntKind.u64 (IntKind.u64.wrap n), h) := aconvI_eq' Try.intk98 hs
theorem Try.intk102 : intk Try.prog 102 = some IntKind.i64 := by kernel_rfl
theorem Try.conv102 {h : AH} {u : TypeId} {k : IntKind} {n : Int} (hs : (tyc Try.prog u).isSome = true) : aconvert Try.prog h u 102 (.int k n) = some (.int IntKind.i64 (IntKind.i64.wrap n), h) := aconvI_eq' Try.intk102 hs
theorem Try.intk110 : intk Try.prog 110 = some IntKind.u32 := by kernel_rfl
theorem Try.conv110 {h : AH} {u : TypeId} {k : IntKind} {n : Int} (hs : (tyc Try.prog u).isSome = true) : aconvert Try.prog h u 110 (.int k n) = some (.int IntKind.u32 (IntKind.u32.wrap n), h) := aconvI_eq' Try.intk110 hs
theorem Try.intk112 : intk Try.prog 112 = some IntKind.u64 := by kernel_rfl
theorem Try.conv112 {h : AH} {u : TypeId} {k : IntKind} {n : Int} (hs : (tyc Try.prog u).isSome = true) : aconvert Try.prog h u 112 (.int k n) = some (.int IntKind.u64 (IntKind.u64.wrap n), h) := aconvI_eq' Try.intk112 hs
theorem Try.intk128 : intk Try.prog 128 = some IntKind.u8 := by kernel_rfl
theorem Try.conv128 {h : AH} {u : TypeId} {k : IntKind} {n : Int} (hs : (tyc Try.prog u).isSome = true) : aconvert Try.prog h u 128 (.int k n) = some (.int IntKind.u8 (IntKind.u8.wrap n), h) := aconvI_eq' Try.intk128 hs
theorem Try.intk129 : intk Try.prog 129 = some IntKind.u8 := by kernel_rfl
theorem Try.conv129 {h : AH} {u : TypeId} {k : IntKind} {n : Int} (hs : (tyc Try.prog u).isSome = true) : aconvert Try.prog h u 129 (.int k n) = some (.int IntKind.u8 (IntKind.u8.wrap n), h) := aconvI_eq' Try.intk129 hs
theorem Try.intk132 : intk Try.prog 132 = some IntKind.i32 := by kernel_rfl
theorem Try.conv132 {h : AH} {u : TypeId} {k : IntKind} {n : Int} (hs : (tyc Try.prog u).isSome = true) : aconvert Try.prog h u 132 (.int k n) = some (.int IntKind.i32 (IntKind.i32.wrap n), h) := aconvI_eq' Try.intk132 hs
theorem Try.intk133 : intk Try.prog 133 = some IntKind.i32 := by kernel_rfl
theorem Try.conv133 {h : AH} {u : TypeId} {k : IntKind} {n : Int} (hs : (tyc Try.prog u).isSome = true) : aconvert Try.prog h u 133 (.int k n) = some (.int IntKind.i32 (IntKind.i32.wrap n), h) := aconvI_eq' Try.intk133 hs
theorem Try.nint9 : nint Try.prog 9 = true := by kernel_rfl
theorem Try.nint10 : nint Try.prog 10 = true := by kernel_rfl
theorem Try.nint11 : nint Try.prog 11 = true := by kernel_rfl
theorem Try.nint22 : nint Try.prog 22 = true := by kernel_rfl
theorem Try.nint26 : nint Try.prog 26 = true := by kernel_rfl
theorem Try.nint39 : nint Try.prog 39 = true := by kernel_rfl
theorem Try.nint42 : nint Try.prog 42 = true := by kernel_rfl
theorem Try.nint46 : nint Try.prog 46 = true := by kernel_rfl
theorem Try.nint74 : nint Try.prog 74 = true := by kernel_rfl
theorem Try.isStr9 : isStr Try.prog 9 = true := by kernel_rfl
theorem Try.lenT9 {h : AH} {s : ByteArray} : alen Try.prog h 9 (.string s) = some (.int .i64 s.size) := alenT_eq' Try.isStr9
theorem Try.sliceT9 {h : AH} {s : ByteArray} {lo hi : Option Value} : aslice Try.prog h 9 (.string s) lo hi = mkSliceT s lo hi true := asliceT_eq' Try.isStr9
theorem Try.isStr10 : isStr Try.prog 10 = true := by kernel_rfl
theorem Try.lenT10 {h : AH} {s : ByteArray} : alen Try.prog h 10 (.string s) = some (.int .i64 s.size) := alenT_eq' Try.isStr10
theorem Try.sliceT10 {h : AH} {s : ByteArray} {lo hi : Option Value} : aslice Try.prog h 10 (.string s) lo hi = mkSliceT s lo hi true := asliceT_eq' Try.isStr10
theorem Try.isStr11 : isStr Try.prog 11 = true := by kernel_rfl
theorem Try.lenT11 {h : AH} {s : ByteArray} : alen Try.prog h 11 (.string s) = some (.int .i64 s.size) := alenT_eq' Try.isStr11
theorem Try.sliceT11 {h : AH} {s : ByteArray} {lo hi : Option Value} : aslice Try.prog h 11 (.string s) lo hi = mkSliceT s lo hi true := asliceT_eq' Try.isStr11
theorem Try.isBool4 : isBool Try.prog 4 = true := by kernel_rfl
theorem Try.eqlB4 {x y : Operand} {a b : Bool} : abinOp Try.prog .eql 4 x y (.bool a) (.bool b) = some (.bool (a == b)) := abin_eqlB (isBool_u Try.isBool4) a b
theorem Try.neqB4 {x y : Operand} {a b : Bool} : abinOp Try.prog .neq 4 x y (.bool a) (.bool b) = some (.bool (!(a == b))) := abin_neqB (isBool_u Try.isBool4) a b
theorem Try.rowK32 : rowK Try.prog 32 = some (20, IntKind.u8) := by kernel_rfl
theorem Try.eqlR32 {x y : Operand} {a b : Addr20} : abinOp Try.prog .eql 32 x y (.agg (encAddr a).toArray) (.agg (encAddr b).toArray) = some (.bool (decide (a = b))) := abin_eqlAddr Try.rowK32 a b
theorem Try.neqR32 {x y : Operand} {a b : Addr20} : abinOp Try.prog .neq 32 x y (.agg (encAddr a).toArray) (.agg (encAddr b).toArray) = some (.bool (!decide (a = b))) := abin_neqAddr Try.rowK32 a b
theorem Try.rowK33 : rowK Try.prog 33 = some (20, IntKind.u8) := by kernel_rfl
theorem Try.eqlR33 {x y : Operand} {a b : Addr20} : abinOp Try.prog .eql 33 x y (.agg (encAddr a).toArray) (.agg (encAddr b).toArray) = some (.bool (decide (a = b))) := abin_eqlAddr Try.rowK33 a b
theorem Try.neqR33 {x y : Operand} {a b : Addr20} : abinOp Try.prog .neq 33 x y (.agg (encAddr a).toArray) (.agg (encAddr b).toArray) = some (.bool (!decide (a = b))) := abin_neqAddr Try.rowK33 a b
theorem Try.rowK35 : rowK Try.prog 35 = some (4, IntKind.u64) := by kernel_rfl
theorem Try.eqlR35 {x y : Operand} {a b : Word4} : abinOp Try.prog .eql 35 x y (.agg (encWord a).toArray) (.agg (encWord b).toArray) = some (.bool (decide (a = b))) := abin_eqlWord Try.rowK35 a b
theorem Try.neqR35 {x y : Operand} {a b : Word4} : abinOp Try.prog .neq 35 x y (.agg (encWord a).toArray) (.agg (encWord b).toArray) = some (.bool (!decide (a = b))) := abin_neqWord Try.rowK35 a b
theorem Try.rowK36 : rowK Try.prog 36 = some (4, IntKind.u64) := by kernel_rfl
theorem Try.eqlR36 {x y : Operand} {a b : Word4} : abinOp Try.prog .eql 36 x y (.agg (encWord a).toArray) (.agg (encWord b).toArray) = some (.bool (decide (a = b))) := abin_eqlWord Try.rowK36 a b
theorem Try.neqR36 {x y : Operand} {a b : Word4} : abinOp Try.prog .neq 36 x y (.agg (encWord a).toArray) (.agg (encWord b).toArray) = some (.bool (!decide (a = b))) := abin_neqWord Try.rowK36 a b
theorem Try.keyTy54 : keyTy Try.prog 54 = true := by kernel_rfl
theorem Try.mp51 : mp Try.prog 51 = some (54, Value.agg { toList := [] }) := by kernel_rfl
theorem Try.makeM51 {h : AH} : amMake Try.prog h 51 = some (.map (some h.length), h ++ [.map 54 #[] 0]) := amMake_eq Try.mp51 Try.keyTy54
theorem Try.look51 {h : AH} {b : Nat} {key : Value} {ok : Bool} (hk : keyed Try.prog 54 key = true) : amLookup Try.prog h 51 (.map (some b)) key ok = mkLook ok 54 (Value.agg { toList := [] }) key h[b]? := amLookup_mk Try.mp51 hk
theorem Try.lookN51 {h : AH} {key : Value} {ok : Bool} (hk : keyed Try.prog 54 key = true) : amLookup Try.prog h 51 (.map none) key ok = some (lookRes ok (Value.agg { toList := [] }) false) := amLookup_nil Try.mp51 hk Try.keyTy54
theorem Try.ent51 {h : AH} {b : Nat} {key : Value} (hk : keyed Try.prog 54 key = true) : amEntry Try.prog h 51 (.map (some b)) key = mkEnt h b 54 (Value.agg { toList := [] }) key h[b]? := amEntry_mk Try.mp51 hk
theorem Try.upd51 {h : AH} {b : Nat} {key v : Value} (hk : keyed Try.prog 54 key = true) : amUpdate Try.prog h 51 (.map (some b)) key v = mkUpd h b 54 key v h[b]? := amUpdate_mk Try.mp51 hk
theorem Try.mp52 : mp Try.prog 52 = some (54, Value.agg { toList := [] }) := by kernel_rfl
theorem Try.makeM52 {h : AH} : amMake Try.prog h 52 = some (.map (some h.length), h ++ [.map 54 #[] 0]) := amMake_eq Try.mp52 Try.keyTy54
theorem Try.look52 {h : AH} {b : Nat} {key : Value} {ok : Bool} (hk : keyed Try.prog 54 key = true) : amLookup Try.prog h 52 (.map (some b)) key ok = mkLook ok 54 (Value.agg { toList := [] }) key h[b]? := amLookup_mk Try.mp52 hk
theorem Try.lookN52 {h : AH} {key : Value} {ok : Bool} (hk : keyed Try.prog 54 key = true) : amLookup Try.prog h 52 (.map none) key ok = some (lookRes ok (Value.agg { toList := [] }) false) := amLookup_nil Try.mp52 hk Try.keyTy54
theorem Try.ent52 {h : AH} {b : Nat} {key : Value} (hk : keyed Try.prog 54 key = true) : amEntry Try.prog h 52 (.map (some b)) key = mkEnt h b 54 (Value.agg { toList := [] }) key h[b]? := amEntry_mk Try.mp52 hk
theorem Try.upd52 {h : AH} {b : Nat} {key v : Value} (hk : keyed Try.prog 54 key = true) : amUpdate Try.prog h 52 (.map (some b)) key v = mkUpd h b 54 key v h[b]? := amUpdate_mk Try.mp52 hk
theorem Try.mp75 : mp Try.prog 75 = some (54, Value.int IntKind.i64 (0)) := by kernel_rfl
theorem Try.makeM75 {h : AH} : amMake Try.prog h 75 = some (.map (some h.length), h ++ [.map 54 #[] 0]) := amMake_eq Try.mp75 Try.keyTy54
theorem Try.look75 {h : AH} {b : Nat} {key : Value} {ok : Bool} (hk : keyed Try.prog 54 key = true) : amLookup Try.prog h 75 (.map (some b)) key ok = mkLook ok 54 (Value.int IntKind.i64 (0)) key h[b]? := amLookup_mk Try.mp75 hk
theorem Try.lookN75 {h : AH} {key : Value} {ok : Bool} (hk : keyed Try.prog 54 key = true) : amLookup Try.prog h 75 (.map none) key ok = some (lookRes ok (Value.int IntKind.i64 (0)) false) := amLookup_nil Try.mp75 hk Try.keyTy54
theorem Try.ent75 {h : AH} {b : Nat} {key : Value} (hk : keyed Try.prog 54 key = true) : amEntry Try.prog h 75 (.map (some b)) key = mkEnt h b 54 (Value.int IntKind.i64 (0)) key h[b]? := amEntry_mk Try.mp75 hk
theorem Try.upd75 {h : AH} {b : Nat} {key v : Value} (hk : keyed Try.prog 54 key = true) : amUpdate Try.prog h 75 (.map (some b)) key v = mkUpd h b 54 key v h[b]? := amUpdate_mk Try.mp75 hk
theorem Try.mp76 : mp Try.prog 76 = some (54, Value.int IntKind.i64 (0)) := by kernel_rfl
theorem Try.makeM76 {h : AH} : amMake Try.prog h 76 = some (.map (some h.length), h ++ [.map 54 #[] 0]) := amMake_eq Try.mp76 Try.keyTy54
theorem Try.look76 {h : AH} {b : Nat} {key : Value} {ok : Bool} (hk : keyed Try.prog 54 key = true) : amLookup Try.prog h 76 (.map (some b)) key ok = mkLook ok 54 (Value.int IntKind.i64 (0)) key h[b]? := amLookup_mk Try.mp76 hk
theorem Try.lookN76 {h : AH} {key : Value} {ok : Bool} (hk : keyed Try.prog 54 key = true) : amLookup Try.prog h 76 (.map none) key ok = some (lookRes ok (Value.int IntKind.i64 (0)) false) := amLookup_nil Try.mp76 hk Try.keyTy54
theorem Try.ent76 {h : AH} {b : Nat} {key : Value} (hk : keyed Try.prog 54 key = true) : amEntry Try.prog h 76 (.map (some b)) key = mkEnt h b 54 (Value.int IntKind.i64 (0)) key h[b]? := amEntry_mk Try.mp76 hk
theorem Try.upd76 {h : AH} {b : Nat} {key v : Value} (hk : keyed Try.prog 54 key = true) : amUpdate Try.prog h 76 (.map (some b)) key v = mkUpd h b 54 key v h[b]? := amUpdate_mk Try.mp76 hk
theorem Try.hb2 : hasBody Try.prog 2 = true := by kernel_rfl
theorem Try.hb3 : hasBody Try.prog 3 = true := by kernel_rfl
theorem Try.hb4 : hasBody Try.prog 4 = true := by kernel_rfl
theorem Try.hb5 : hasBody Try.prog 5 = true := by kernel_rfl
theorem Try.hb6 : hasBody Try.prog 6 = true := by kernel_rfl
theorem Try.hb7 : hasBody Try.prog 7 = true := by kernel_rfl
theorem Try.hb8 : hasBody Try.prog 8 = true := by kernel_rfl
theorem Try.hb9 : hasBody Try.prog 9 = true := by kernel_rfl
theorem Try.hb10 : hasBody Try.prog 10 = true := by kernel_rfl
theorem Try.hb11 : hasBody Try.prog 11 = true := by kernel_rfl
theorem Try.hb12 : hasBody Try.prog 12 = true := by kernel_rfl
theorem Try.hb13 : hasBody Try.prog 13 = true := by kernel_rfl
theorem Try.hb14 : hasBody Try.prog 14 = true := by kernel_rfl
theorem Try.hb15 : hasBody Try.prog 15 = true := by kernel_rfl
theorem Try.hb16 : hasBody Try.prog 16 = true := by kernel_rfl
theorem Try.hb17 : hasBody Try.prog 17 = true := by kernel_rfl
theorem Try.hb18 : hasBody Try.prog 18 = true := by kernel_rfl
theorem Try.hb19 : hasBody Try.prog 19 = true := by kernel_rfl
theorem Try.hb20 : hasBody Try.prog 20 = true := by kernel_rfl
theorem Try.hb21 : hasBody Try.prog 21 = true := by kernel_rfl
theorem Try.hb22 : hasBody Try.prog 22 = true := by kernel_rfl
theorem Try.hb23 : hasBody Try.prog 23 = true := by kernel_rfl
theorem Try.hb24 : hasBody Try.prog 24 = true := by kernel_rfl
theorem Try.hb25 : hasBody Try.prog 25 = true := by kernel_rfl
theorem Try.hb26 : hasBody Try.prog 26 = true := by kernel_rfl
theorem Try.hb27 : hasBody Try.prog 27 = true := by kernel_rfl
theorem Try.hb28 : hasBody Try.prog 28 = true := by kernel_rfl
theorem Try.hb29 : hasBody Try.prog 29 = true := by kernel_rfl
theorem Try.hb30 : hasBody Try.prog 30 = true := by kernel_rfl
theorem Try.hb31 : hasBody Try.prog 31 = true := by kernel_rfl
theorem Try.hb32 : hasBody Try.prog 32 = true := by kernel_rfl
theorem Try.hb33 : hasBody Try.prog 33 = true := by kernel_rfl
theorem Try.hb34 : hasBody Try.prog 34 = true := by kernel_rfl
theorem Try.hb35 : hasBody Try.prog 35 = true := by kernel_rfl
theorem Try.hb36 : hasBody Try.prog 36 = true := by kernel_rfl
theorem Try.hb37 : hasBody Try.prog 37 = true := by kernel_rfl
theorem Try.hb38 : hasBody Try.prog 38 = true := by kernel_rfl
theorem Try.hb39 : hasBody Try.prog 39 = true := by kernel_rfl
theorem Try.hb40 : hasBody Try.prog 40 = true := by kernel_rfl
theorem Try.hb41 : hasBody Try.prog 41 = true := by kernel_rfl
theorem Try.hb42 : hasBody Try.prog 42 = true := by kernel_rfl
theorem Try.hb43 : hasBody Try.prog 43 = true := by kernel_rfl
theorem Try.hb44 : hasBody Try.prog 44 = true := by kernel_rfl
theorem Try.hb45 : hasBody Try.prog 45 = true := by kernel_rfl
theorem Try.hb46 : hasBody Try.prog 46 = true := by kernel_rfl
theorem Try.hb47 : hasBody Try.prog 47 = true := by kernel_rfl
theorem Try.hb48 : hasBody Try.prog 48 = true := by kernel_rfl
theorem Try.hb49 : hasBody Try.prog 49 = true := by kernel_rfl
theorem Try.hb50 : hasBody Try.prog 50 = true := by kernel_rfl
theorem Try.hb51 : hasBody Try.prog 51 = true := by kernel_rfl
theorem Try.hb52 : hasBody Try.prog 52 = true := by kernel_rfl
theorem Try.hb54 : hasBody Try.prog 54 = true := by kernel_rfl
theorem Try.hb55 : hasBody Try.prog 55 = true := by kernel_rfl
theorem Try.hb56 : hasBody Try.prog 56 = true := by kernel_rfl
theorem Try.hb57 : hasBody Try.prog 57 = true := by kernel_rfl
theorem Try.hb58 : hasBody Try.prog 58 = true := by kernel_rfl
theorem Try.hb59 : hasBody Try.prog 59 = true := by kernel_rfl
theorem Try.hb60 : hasBody Try.prog 60 = true := by kernel_rfl
theorem Try.hb62 : hasBody Try.prog 62 = true := by kernel_rfl
theorem Try.hb63 : hasBody Try.prog 63 = true := by kernel_rfl
theorem Try.hb64 : hasBody Try.prog 64 = true := by kernel_rfl
theorem Try.hb65 : hasBody Try.prog 65 = true := by kernel_rfl
theorem Try.hb66 : hasBody Try.prog 66 = true := by kernel_rfl
theorem Try.hb67 : hasBody Try.prog 67 = true := by kernel_rfl
theorem Try.hb68 : hasBody Try.prog 68 = true := by kernel_rfl
theorem Try.hb69 : hasBody Try.prog 69 = true := by kernel_rfl
theorem Try.hb70 : hasBody Try.prog 70 = true := by kernel_rfl
theorem Try.hb71 : hasBody Try.prog 71 = true := by kernel_rfl
theorem Try.hb72 : hasBody Try.prog 72 = true := by kernel_rfl
theorem Try.hb73 : hasBody Try.prog 73 = true := by kernel_rfl
theorem Try.hb74 : hasBody Try.prog 74 = true := by kernel_rfl
theorem Try.hb75 : hasBody Try.prog 75 = true := by kernel_rfl
theorem Try.hb76 : hasBody Try.prog 76 = true := by kernel_rfl
theorem Try.hb77 : hasBody Try.prog 77 = true := by kernel_rfl
theorem Try.hb78 : hasBody Try.prog 78 = true := by kernel_rfl
theorem Try.hb79 : hasBody Try.prog 79 = true := by kernel_rfl
theorem Try.hb80 : hasBody Try.prog 80 = true := by kernel_rfl
theorem Try.hb81 : hasBody Try.prog 81 = true := by kernel_rfl
theorem Try.hb82 : hasBody Try.prog 82 = true := by kernel_rfl
theorem Try.hb83 : hasBody Try.prog 83 = true := by kernel_rfl
theorem Try.cmp61 {h : AH} {x y : Value} : acall Try.prog h (.func (.func 61) #[] #[]) #[x, y] = aval h (acompare h x y) := acall_compare (by kernel_rfl) (by kernel_rfl)
theorem Try.sub64_53 {h : AH} {x y c : Value} : acall Try.prog h (.func (.func 53) #[] #[]) #[x, y, c] = aval h (acarry false x y c) := acall_sub64 (by kernel_rfl) (by kernel_rfl) (by kernel_rfl)
attribute [go_sem] Try.load0 Try.loadF0 Try.store0 Try.some0 Try.load1 Try.loadF1 Try.store1 Try.some1 Try.load2 Try.loadF2 Try.store2 Try.some2 Try.load3 Try.loadF3 Try.store3 Try.some3 Try.load4 Try.loadF4 Try.store4 Try.some4 Try.load5 Try.loadF5 Try.store5 Try.some5 Try.load6 Try.loadF6 Try.store6 Try.some6 Try.load7 Try.loadF7 Try.store7 Try.some7 Try.load8 Try.loadF8 Try.store8 Try.some8 Try.load9 Try.loadF9 Try.store9 Try.some9
attribute [go_sem] Try.load10 Try.loadF10 Try.store10 Try.some10 Try.load11 Try.loadF11 Try.store11 Try.some11 Try.load12 Try.loadF12 Try.store12 Try.some12 Try.load13 Try.loadF13 Try.store13 Try.some13 Try.load14 Try.loadF14 Try.store14 Try.some14 Try.load15 Try.loadF15 Try.store15 Try.some15 Try.load16 Try.loadF16 Try.store16 Try.some16 Try.load17 Try.loadF17 Try.store17 Try.some17 Try.load18 Try.loadF18 Try.store18 Try.some18 Try.load19 Try.loadF19 Try.store19 Try.some19
attribute [go_sem] Try.load20 Try.loadF20 Try.store20 Try.some20 Try.load21 Try.loadF21 Try.store21 Try.some21 Try.load22 Try.loadF22 Try.store22 Try.some22 Try.load23 Try.loadF23 Try.store23 Try.some23 Try.load24 Try.loadF24 Try.store24 Try.some24 Try.load25 Try.loadF25 Try.store25 Try.some25 Try.load26 Try.loadF26 Try.store26 Try.some26 Try.load27 Try.loadF27 Try.store27 Try.some27 Try.load28 Try.loadF28 Try.store28 Try.some28 Try.load29 Try.loadF29 Try.store29 Try.some29
attribute [go_sem] Try.load30 Try.loadF30 Try.store30 Try.some30 Try.load31 Try.loadF31 Try.store31 Try.some31 Try.load32 Try.loadF32 Try.store32 Try.some32 Try.load33 Try.loadF33 Try.store33 Try.some33 Try.load34 Try.loadF34 Try.store34 Try.some34 Try.load35 Try.loadF35 Try.store35 Try.some35 Try.load36 Try.loadF36 Try.store36 Try.some36 Try.load37 Try.loadF37 Try.store37 Try.some37 Try.load38 Try.loadF38 Try.store38 Try.some38 Try.load39 Try.loadF39 Try.store39 Try.some39
attribute [go_sem] Try.load40 Try.loadF40 Try.store40 Try.some40 Try.load41 Try.loadF41 Try.store41 Try.some41 Try.load42 Try.loadF42 Try.store42 Try.some42 Try.load43 Try.loadF43 Try.store43 Try.some43 Try.load44 Try.loadF44 Try.store44 Try.some44 Try.load45 Try.loadF45 Try.store45 Try.some45 Try.load46 Try.loadF46 Try.store46 Try.some46 Try.load47 Try.loadF47 Try.store47 Try.some47 Try.load48 Try.loadF48 Try.store48 Try.some48 Try.load49 Try.loadF49 Try.store49 Try.some49
attribute [go_sem] Try.load50 Try.loadF50 Try.store50 Try.some50 Try.load51 Try.loadF51 Try.store51 Try.some51 Try.load52 Try.loadF52 Try.store52 Try.some52 Try.load53 Try.loadF53 Try.store53 Try.some53 Try.load54 Try.loadF54 Try.store54 Try.some54 Try.load55 Try.loadF55 Try.store55 Try.some55 Try.load56 Try.loadF56 Try.store56 Try.some56 Try.load57 Try.loadF57 Try.store57 Try.some57 Try.load58 Try.loadF58 Try.store58 Try.some58 Try.load59 Try.loadF59 Try.store59 Try.some59
attribute [go_sem] Try.load60 Try.loadF60 Try.store60 Try.some60 Try.load61 Try.loadF61 Try.store61 Try.some61 Try.load62 Try.loadF62 Try.store62 Try.some62 Try.load63 Try.loadF63 Try.store63 Try.some63 Try.load64 Try.loadF64 Try.store64 Try.some64 Try.load65 Try.loadF65 Try.store65 Try.some65 Try.load66 Try.loadF66 Try.store66 Try.some66 Try.load67 Try.loadF67 Try.store67 Try.some67 Try.load68 Try.loadF68 Try.store68 Try.some68 Try.load69 Try.loadF69 Try.store69 Try.some69
attribute [go_sem] Try.load70 Try.loadF70 Try.store70 Try.some70 Try.load71 Try.loadF71 Try.store71 Try.some71 Try.load72 Try.loadF72 Try.store72 Try.some72 Try.load73 Try.loadF73 Try.store73 Try.some73 Try.load74 Try.loadF74 Try.store74 Try.some74 Try.load75 Try.loadF75 Try.store75 Try.some75 Try.load76 Try.loadF76 Try.store76 Try.some76 Try.load77 Try.loadF77 Try.store77 Try.some77 Try.load78 Try.loadF78 Try.store78 Try.some78 Try.load79 Try.loadF79 Try.store79 Try.some79
attribute [go_sem] Try.load80 Try.loadF80 Try.store80 Try.some80 Try.load81 Try.loadF81 Try.store81 Try.some81 Try.load82 Try.loadF82 Try.store82 Try.some82 Try.load83 Try.loadF83 Try.store83 Try.some83 Try.load84 Try.loadF84 Try.store84 Try.some84 Try.load85 Try.loadF85 Try.store85 Try.some85 Try.load86 Try.loadF86 Try.store86 Try.some86 Try.load87 Try.loadF87 Try.store87 Try.some87 Try.load88 Try.loadF88 Try.store88 Try.some88 Try.load89 Try.loadF89 Try.store89 Try.some89
attribute [go_sem] Try.load90 Try.loadF90 Try.store90 Try.some90 Try.load91 Try.loadF91 Try.store91 Try.some91 Try.load92 Try.loadF92 Try.store92 Try.some92 Try.load93 Try.loadF93 Try.store93 Try.some93 Try.load94 Try.loadF94 Try.store94 Try.some94 Try.load95 Try.loadF95 Try.store95 Try.some95 Try.load96 Try.loadF96 Try.store96 Try.some96 Try.load97 Try.loadF97 Try.store97 Try.some97 Try.load98 Try.loadF98 Try.store98 Try.some98 Try.load99 Try.loadF99 Try.store99 Try.some99
attribute [go_sem] Try.load100 Try.loadF100 Try.store100 Try.some100 Try.load101 Try.loadF101 Try.store101 Try.some101 Try.load102 Try.loadF102 Try.store102 Try.some102 Try.load103 Try.loadF103 Try.store103 Try.some103 Try.load104 Try.loadF104 Try.store104 Try.some104 Try.load105 Try.loadF105 Try.store105 Try.some105 Try.load106 Try.loadF106 Try.store106 Try.some106 Try.load107 Try.loadF107 Try.store107 Try.some107 Try.load108 Try.loadF108 Try.store108 Try.some108 Try.load109 Try.loadF109 Try.store109 Try.some109
attribute [go_sem] Try.load110 Try.loadF110 Try.store110 Try.some110 Try.load111 Try.loadF111 Try.store111 Try.some111 Try.load112 Try.loadF112 Try.store112 Try.some112 Try.load113 Try.loadF113 Try.store113 Try.some113 Try.load114 Try.loadF114 Try.store114 Try.some114 Try.load115 Try.loadF115 Try.store115 Try.some115 Try.load116 Try.loadF116 Try.store116 Try.some116 Try.load117 Try.loadF117 Try.store117 Try.some117 Try.load118 Try.loadF118 Try.store118 Try.some118 Try.load119 Try.loadF119 Try.store119 Try.some119
attribute [go_sem] Try.load120 Try.loadF120 Try.store120 Try.some120 Try.load121 Try.loadF121 Try.store121 Try.some121 Try.load122 Try.loadF122 Try.store122 Try.some122 Try.load123 Try.loadF123 Try.store123 Try.some123 Try.load124 Try.loadF124 Try.store124 Try.some124 Try.load125 Try.loadF125 Try.store125 Try.some125 Try.load126 Try.loadF126 Try.store126 Try.some126 Try.load127 Try.loadF127 Try.store127 Try.some127 Try.load128 Try.loadF128 Try.store128 Try.some128 Try.load129 Try.loadF129 Try.store129 Try.some129
attribute [go_sem] Try.load130 Try.loadF130 Try.store130 Try.some130 Try.load131 Try.loadF131 Try.store131 Try.some131 Try.load132 Try.loadF132 Try.store132 Try.some132 Try.load133 Try.loadF133 Try.store133 Try.some133 Try.load134 Try.loadF134 Try.store134 Try.some134 Try.load135 Try.loadF135 Try.store135 Try.some135 Try.load136 Try.loadF136 Try.store136 Try.some136 Try.fieldAddr7_0 Try.fieldAddrF7_0 Try.field7_0 Try.fieldAddr7_1 Try.fieldAddrF7_1 Try.field7_1 Try.fieldAddr7_2 Try.fieldAddrF7_2 Try.field7_2 Try.fieldAddr7_3 Try.fieldAddrF7_3 Try.field7_3
attribute [go_sem] Try.fieldAddr8_0 Try.fieldAddrF8_0 Try.field8_0 Try.fieldAddr8_1 Try.fieldAddrF8_1 Try.field8_1 Try.fieldAddr8_2 Try.fieldAddrF8_2 Try.field8_2 Try.fieldAddr8_3 Try.fieldAddrF8_3 Try.field8_3 Try.fieldAddr13_0 Try.fieldAddrF13_0 Try.field13_0 Try.fieldAddr13_1 Try.fieldAddrF13_1 Try.field13_1 Try.fieldAddr14_0 Try.fieldAddrF14_0 Try.field14_0 Try.fieldAddr14_1 Try.fieldAddrF14_1 Try.field14_1 Try.fieldAddr18_0 Try.fieldAddrF18_0 Try.field18_0 Try.fieldAddr19_0 Try.fieldAddrF19_0 Try.field19_0 Try.fieldAddr27_0 Try.fieldAddrF27_0 Try.field27_0 Try.fieldAddr27_1 Try.fieldAddrF27_1 Try.field27_1 Try.fieldAddr28_0 Try.fieldAddrF28_0 Try.field28_0 Try.fieldAddr28_1
attribute [go_sem] Try.fieldAddrF28_1 Try.field28_1 Try.fieldAddr49_0 Try.fieldAddrF49_0 Try.field49_0 Try.fieldAddr49_1 Try.fieldAddrF49_1 Try.field49_1 Try.fieldAddr49_2 Try.fieldAddrF49_2 Try.field49_2 Try.fieldAddr49_3 Try.fieldAddrF49_3 Try.field49_3 Try.fieldAddr49_4 Try.fieldAddrF49_4 Try.field49_4 Try.fieldAddr49_5 Try.fieldAddrF49_5 Try.field49_5 Try.fieldAddr49_6 Try.fieldAddrF49_6 Try.field49_6 Try.fieldAddr50_0 Try.fieldAddrF50_0 Try.field50_0 Try.fieldAddr50_1 Try.fieldAddrF50_1 Try.field50_1 Try.fieldAddr50_2 Try.fieldAddrF50_2 Try.field50_2 Try.fieldAddr50_3 Try.fieldAddrF50_3 Try.field50_3 Try.fieldAddr50_4 Try.fieldAddrF50_4 Try.field50_4 Try.fieldAddr50_5 Try.fieldAddrF50_5
attribute [go_sem] Try.field50_5 Try.fieldAddr50_6 Try.fieldAddrF50_6 Try.field50_6 Try.fieldAddr53_0 Try.fieldAddrF53_0 Try.field53_0 Try.fieldAddr53_1 Try.fieldAddrF53_1 Try.field53_1 Try.fieldAddr53_2 Try.fieldAddrF53_2 Try.field53_2 Try.fieldAddr54_0 Try.fieldAddrF54_0 Try.field54_0 Try.fieldAddr54_1 Try.fieldAddrF54_1 Try.field54_1 Try.fieldAddr54_2 Try.fieldAddrF54_2 Try.field54_2 Try.fieldAddr122_0 Try.fieldAddrF122_0 Try.field122_0 Try.fieldAddr122_1 Try.fieldAddrF122_1 Try.field122_1 Try.fieldAddr122_2 Try.fieldAddrF122_2 Try.field122_2 Try.fieldAddr122_3 Try.fieldAddrF122_3 Try.field122_3 Try.fieldAddr123_0 Try.fieldAddrF123_0 Try.field123_0 Try.fieldAddr123_1 Try.fieldAddrF123_1 Try.field123_1
attribute [go_sem] Try.fieldAddr123_2 Try.fieldAddrF123_2 Try.field123_2 Try.fieldAddr123_3 Try.fieldAddrF123_3 Try.field123_3 Try.fieldAddr125_0 Try.fieldAddrF125_0 Try.field125_0 Try.fieldAddr126_0 Try.fieldAddrF126_0 Try.field126_0 Try.fieldAddr134_0 Try.fieldAddrF134_0 Try.field134_0 Try.fieldAddr134_1 Try.fieldAddrF134_1 Try.field134_1 Try.fieldAddr134_2 Try.fieldAddrF134_2 Try.field134_2 Try.fieldAddr134_3 Try.fieldAddrF134_3 Try.field134_3 Try.fieldAddr134_4 Try.fieldAddrF134_4 Try.field134_4 Try.fieldAddr134_5 Try.fieldAddrF134_5 Try.field134_5 Try.fieldAddr134_6 Try.fieldAddrF134_6 Try.field134_6 Try.fieldAddr134_7 Try.fieldAddrF134_7 Try.field134_7 Try.fieldAddr134_8 Try.fieldAddrF134_8 Try.field134_8 Try.fieldAddr134_9
attribute [go_sem] Try.fieldAddrF134_9 Try.field134_9 Try.fieldAddr134_10 Try.fieldAddrF134_10 Try.field134_10 Try.fieldAddr135_0 Try.fieldAddrF135_0 Try.field135_0 Try.fieldAddr135_1 Try.fieldAddrF135_1 Try.field135_1 Try.fieldAddr135_2 Try.fieldAddrF135_2 Try.field135_2 Try.fieldAddr135_3 Try.fieldAddrF135_3 Try.field135_3 Try.fieldAddr135_4 Try.fieldAddrF135_4 Try.field135_4 Try.fieldAddr135_5 Try.fieldAddrF135_5 Try.field135_5 Try.fieldAddr135_6 Try.fieldAddrF135_6 Try.field135_6 Try.fieldAddr135_7 Try.fieldAddrF135_7 Try.field135_7 Try.fieldAddr135_8 Try.fieldAddrF135_8 Try.field135_8 Try.fieldAddr135_9 Try.fieldAddrF135_9 Try.field135_9 Try.fieldAddr135_10 Try.fieldAddrF135_10 Try.field135_10 Try.alloc1 Try.alloc2
attribute [go_sem] Try.alloc3 Try.alloc4 Try.alloc5 Try.alloc6 Try.alloc7 Try.alloc8 Try.alloc9 Try.alloc10 Try.alloc11 Try.alloc12 Try.alloc13 Try.alloc14 Try.alloc15 Try.alloc16 Try.alloc17 Try.alloc18 Try.alloc19 Try.alloc20 Try.alloc21 Try.alloc22 Try.alloc23 Try.alloc24 Try.alloc25 Try.alloc26 Try.alloc27 Try.alloc28 Try.alloc29 Try.alloc30 Try.alloc31 Try.alloc32 Try.alloc33 Try.alloc34 Try.alloc35 Try.alloc36 Try.alloc37 Try.alloc38 Try.alloc39 Try.alloc40 Try.alloc41 Try.alloc42
attribute [go_sem] Try.alloc43 Try.alloc44 Try.alloc45 Try.alloc46 Try.alloc47 Try.alloc48 Try.alloc49 Try.alloc50 Try.alloc51 Try.alloc52 Try.alloc53 Try.alloc54 Try.alloc55 Try.alloc56 Try.alloc57 Try.alloc58 Try.alloc59 Try.alloc60 Try.alloc62 Try.alloc63 Try.alloc64 Try.alloc65 Try.alloc66 Try.alloc67 Try.alloc69 Try.alloc71 Try.alloc72 Try.alloc73 Try.alloc74 Try.alloc75 Try.alloc76 Try.alloc77 Try.alloc78 Try.alloc79 Try.alloc80 Try.alloc81 Try.alloc82 Try.alloc83 Try.alloc84 Try.alloc85
attribute [go_sem] Try.alloc86 Try.alloc87 Try.alloc88 Try.alloc89 Try.alloc90 Try.alloc92 Try.alloc93 Try.alloc94 Try.alloc95 Try.alloc96 Try.alloc97 Try.alloc98 Try.alloc99 Try.alloc100 Try.alloc101 Try.alloc102 Try.alloc104 Try.alloc105 Try.alloc106 Try.alloc108 Try.alloc109 Try.alloc110 Try.alloc111 Try.alloc112 Try.alloc113 Try.alloc114 Try.alloc115 Try.alloc116 Try.alloc117 Try.alloc118 Try.alloc120 Try.alloc121 Try.alloc122 Try.alloc123 Try.alloc127 Try.alloc128 Try.alloc129 Try.alloc130 Try.alloc131 Try.alloc132
attribute [go_sem] Try.alloc133 Try.alloc134 Try.alloc135 Try.alloc136 Try.build7 Try.build8 Try.build13 Try.build14 Try.build18 Try.build19 Try.build27 Try.build28 Try.build49 Try.build50 Try.build53 Try.build54 Try.build122 Try.build123 Try.build134 Try.build135 Try.index32 Try.indexA32 Try.indexF32 Try.sliceF32 Try.arrptrZ32 Try.lenA32 Try.sliceA32 Try.arrptr32 Try.buildA32 Try.index33 Try.indexA33 Try.indexF33 Try.sliceF33 Try.arrptrZ33 Try.lenA33 Try.sliceA33 Try.arrptr33 Try.buildA33 Try.index35 Try.indexA35
attribute [go_sem] Try.indexF35 Try.sliceF35 Try.arrptrZ35 Try.lenA35 Try.sliceA35 Try.arrptr35 Try.buildA35 Try.index36 Try.indexA36 Try.indexF36 Try.sliceF36 Try.arrptrZ36 Try.lenA36 Try.sliceA36 Try.arrptr36 Try.buildA36 Try.index124 Try.indexA124 Try.indexF124 Try.sliceF124 Try.arrptrZ124 Try.lenA124 Try.sliceA124 Try.arrptr124 Try.indexS22 Try.indexZ22 Try.indexV22 Try.lenZ22 Try.lenV22 Try.lenO22 Try.indexO22 Try.sliceV22 Try.sliceZ22 Try.len22 Try.sliceS22 Try.sliceN22 Try.buildS22 Try.make22 Try.append22 Try.indexS26
attribute [go_sem] Try.indexZ26 Try.indexV26 Try.lenZ26 Try.lenV26 Try.lenO26 Try.indexO26 Try.sliceV26 Try.sliceZ26 Try.len26 Try.sliceS26 Try.sliceN26 Try.buildS26 Try.make26 Try.append26 Try.indexS39 Try.indexZ39 Try.indexV39 Try.lenZ39 Try.lenV39 Try.lenO39 Try.indexO39 Try.sliceV39 Try.sliceZ39 Try.len39 Try.sliceS39 Try.sliceN39 Try.buildS39 Try.make39 Try.append39 Try.indexS42 Try.indexZ42 Try.indexV42 Try.lenZ42 Try.lenV42 Try.lenO42 Try.indexO42 Try.sliceV42 Try.sliceZ42 Try.len42 Try.sliceS42
attribute [go_sem] Try.sliceN42 Try.buildS42 Try.make42 Try.append42 Try.indexS46 Try.indexZ46 Try.indexV46 Try.lenZ46 Try.lenV46 Try.lenO46 Try.indexO46 Try.sliceV46 Try.sliceZ46 Try.len46 Try.sliceS46 Try.sliceN46 Try.buildS46 Try.make46 Try.append46 Try.indexS74 Try.indexZ74 Try.indexV74 Try.lenZ74 Try.lenV74 Try.lenO74 Try.indexO74 Try.sliceV74 Try.sliceZ74 Try.len74 Try.sliceS74 Try.sliceN74 Try.buildS74 Try.make74 Try.append74 Try.conv2 Try.conv3 Try.conv5 Try.conv6 Try.conv12 Try.conv21
attribute [go_sem] Try.conv34 Try.conv47 Try.conv48 Try.conv98 Try.conv102 Try.conv110 Try.conv112 Try.conv128 Try.conv129 Try.conv132 Try.conv133 Try.nint9 Try.nint10 Try.nint11 Try.nint22 Try.nint26 Try.nint39 Try.nint42 Try.nint46 Try.nint74 Try.lenT9 Try.sliceT9 Try.lenT10 Try.sliceT10 Try.lenT11 Try.sliceT11 Try.eqlB4 Try.neqB4 Try.eqlR32 Try.neqR32 Try.eqlR33 Try.neqR33 Try.eqlR35 Try.neqR35 Try.eqlR36 Try.neqR36 Try.makeM51 Try.look51 Try.lookN51 Try.ent51
attribute [go_sem] Try.upd51 Try.makeM52 Try.look52 Try.lookN52 Try.ent52 Try.upd52 Try.makeM75 Try.look75 Try.lookN75 Try.ent75 Try.upd75 Try.makeM76 Try.look76 Try.lookN76 Try.ent76 Try.upd76 Try.hb2 Try.hb3 Try.hb4 Try.hb5 Try.hb6 Try.hb7 Try.hb8 Try.hb9 Try.hb10 Try.hb11 Try.hb12 Try.hb13 Try.hb14 Try.hb15 Try.hb16 Try.hb17 Try.hb18 Try.hb19 Try.hb20 Try.hb21 Try.hb22 Try.hb23 Try.hb24 Try.hb25
attribute [go_sem] Try.hb26 Try.hb27 Try.hb28 Try.hb29 Try.hb30 Try.hb31 Try.hb32 Try.hb33 Try.hb34 Try.hb35 Try.hb36 Try.hb37 Try.hb38 Try.hb39 Try.hb40 Try.hb41 Try.hb42 Try.hb43 Try.hb44 Try.hb45 Try.hb46 Try.hb47 Try.hb48 Try.hb49 Try.hb50 Try.hb51 Try.hb52 Try.hb54 Try.hb55 Try.hb56 Try.hb57 Try.hb58 Try.hb59 Try.hb60 Try.hb62 Try.hb63 Try.hb64 Try.hb65 Try.hb66 Try.hb67
attribute [go_sem] Try.hb68 Try.hb69 Try.hb70 Try.hb71 Try.hb72 Try.hb73 Try.hb74 Try.hb75 Try.hb76 Try.hb77 Try.hb78 Try.hb79 Try.hb80 Try.hb81 Try.hb82 Try.hb83 Try.cmp61 Try.sub64_53
end Go.Proofs
