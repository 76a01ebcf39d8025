import Derived.Test.YtchknbminoipiaaAm37x
import Derived.Test.YtchknbminoipiaaProg
import Derived.KernelRfl
/- Closed facts of the types and functions. -/
namespace Go.Proofs
open Go Go.Am
theorem Try.tyc0 : tyc Try.prog 0 = some (false, 1) := by kernel_rfl
theorem Try.load0 {h : AH} {b o : Nat} : aload Try.prog h 0 (.pointer (some ⟨b, o, none⟩)) = mkLoad o (some (false, 1)) h[b]? := aload_eq Try.tyc0
theorem Try.loadF0 {h : AH} {c : Array Value} {n : Nat} : aload Try.prog h 0 (fp c n) = mkLoadF c n (some (false, 1)) := aload_fp Try.tyc0
theorem Try.store0 {h : AH} {b o : Nat} {v : Value} : astore Try.prog h 0 (.pointer (some ⟨b, o, none⟩)) v = mkStore h b o v (some (false, 1)) h[b]? := astore_eq' Try.tyc0
theorem Try.some0 : (tyc Try.prog 0).isSome = true := by rw [Try.tyc0]; rfl
theorem Try.tyc1 : tyc Try.prog 1 = some (false, 1) := by kernel_rfl
theorem Try.load1 {h : AH} {b o : Nat} : aload Try.prog h 1 (.pointer (some ⟨b, o, none⟩)) = mkLoad o (some (false, 1)) h[b]? := aload_eq Try.tyc1
theorem Try.loadF1 {h : AH} {c : Array Value} {n : Nat} : aload Try.prog h 1 (fp c n) = mkLoadF c n (some (false, 1)) := aload_fp Try.tyc1
theorem Try.store1 {h : AH} {b o : Nat} {v : Value} : astore Try.prog h 1 (.pointer (some ⟨b, o, none⟩)) v = mkStore h b o v (some (false, 1)) h[b]? := astore_eq' Try.tyc1
theorem Try.some1 : (tyc Try.prog 1).isSome = true := by rw [Try.tyc1]; rfl
theorem Try.tyc2 : tyc Try.prog 2 = some (false, 1) := by kernel_rfl
theorem Try.load2 {h : AH} {b o : Nat} : aload Try.prog h 2 (.pointer (some ⟨b, o, none⟩)) = mkLoad o (some (false, 1)) h[b]? := aload_eq Try.tyc2
theorem Try.loadF2 {h : AH} {c : Array Value} {n : Nat} : aload Try.prog h 2 (fp c n) = mkLoadF c n (some (false, 1)) := aload_fp Try.tyc2
theorem Try.store2 {h : AH} {b o : Nat} {v : Value} : astore Try.prog h 2 (.pointer (some ⟨b, o, none⟩)) v = mkStore h b o v (some (false, 1)) h[b]? := astore_eq' Try.tyc2
theorem Try.some2 : (tyc Try.prog 2).isSome = true := by rw [Try.tyc2]; rfl
theorem Try.tyc3 : tyc Try.prog 3 = some (false, 1) := by kernel_rfl
theorem Try.load3 {h : AH} {b o : Nat} : aload Try.prog h 3 (.pointer (some ⟨b, o, none⟩)) = mkLoad o (some (false, 1)) h[b]? := aload_eq Try.tyc3
theorem Try.loadF3 {h : AH} {c : Array Value} {n : Nat} : aload Try.prog h 3 (fp c n) = mkLoadF c n (some (false, 1)) := aload_fp Try.tyc3
theorem Try.store3 {h : AH} {b o : Nat} {v : Value} : astore Try.prog h 3 (.pointer (some ⟨b, o, none⟩)) v = mkStore h b o v (some (false, 1)) h[b]? := astore_eq' Try.tyc3
theorem Try.some3 : (tyc Try.prog 3).isSome = true := by rw [Try.tyc3]; rfl
theorem Try.tyc4 : tyc Try.prog 4 = some (false, 1) := by kernel_rfl
theorem Try.load4 {h : AH} {b o : Nat} : aload Try.prog h 4 (.pointer (some ⟨b, o, none⟩)) = mkLoad o (some (false, 1)) h[b]? := aload_eq Try.tyc4
theorem Try.loadF4 {h : AH} {c : Array Value} {n : Nat} : aload Try.prog h 4 (fp c n) = mkLoadF c n (some (false, 1)) := aload_fp Try.tyc4
theorem Try.store4 {h : AH} {b o : Nat} {v : Value} : astore Try.prog h 4 (.pointer (some ⟨b, o, none⟩)) v = mkStore h b o v (some (false, 1)) h[b]? := astore_eq' Try.tyc4
theorem Try.some4 : (tyc Try.prog 4).isSome = true := by rw [Try.tyc4]; rfl
theorem Try.tyc5 : tyc Try.prog 5 = some (false, 1) := by kernel_rfl
theorem Try.load5 {h : AH} {b o : Nat} : aload Try.prog h 5 (.pointer (some ⟨b, o, none⟩)) = mkLoad o (some (false, 1)) h[b]? := aload_eq Try.tyc5
theorem Try.loadF5 {h : AH} {c : Array Value} {n : Nat} : aload Try.prog h 5 (fp c n) = mkLoadF c n (some (false, 1)) := aload_fp Try.tyc5
theorem Try.store5 {h : AH} {b o : Nat} {v : Value} : astore Try.prog h 5 (.pointer (some ⟨b, o, none⟩)) v = mkStore h b o v (some (false, 1)) h[b]? := astore_eq' Try.tyc5
theorem Try.some5 : (tyc Try.prog 5).isSome = true := by rw [Try.tyc5]; rfl
theorem Try.tyc6 : tyc Try.prog 6 = some (false, 1) := by kernel_rfl
theorem Try.load6 {h : AH} {b o : Nat} : aload Try.prog h 6 (.pointer (some ⟨b, o, none⟩)) = mkLoad o (some (false, 1)) h[b]? := aload_eq Try.tyc6
theorem Try.loadF6 {h : AH} {c : Array Value} {n : Nat} : aload Try.prog h 6 (fp c n) = mkLoadF c n (some (false, 1)) := aload_fp Try.tyc6
theorem Try.store6 {h : AH} {b o : Nat} {v : Value} : astore Try.prog h 6 (.pointer (some ⟨b, o, none⟩)) v = mkStore h b o v (some (false, 1)) h[b]? := astore_eq' Try.tyc6
theorem Try.some6 : (tyc Try.prog 6).isSome = true := by rw [Try.tyc6]; rfl
theorem Try.tyc7 : tyc Try.prog 7 = some (true, 4) := by kernel_rfl
theorem Try.load7 {h : AH} {b o : Nat} : aload Try.prog h 7 (.pointer (some ⟨b, o, none⟩)) = mkLoad o (some (true, 4)) h[b]? := aload_eq Try.tyc7
theorem Try.loadF7 {h : AH} {c : Array Value} {n : Nat} : aload Try.prog h 7 (fp c n) = mkLoadF c n (some (true, 4)) := aload_fp Try.tyc7
theorem Try.store7 {h : AH} {b o : Nat} {v : Value} : astore Try.prog h 7 (.pointer (some ⟨b, o, none⟩)) v = mkStore h b o v (some (true, 4)) h[b]? := astore_eq' Try.tyc7
theorem Try.some7 : (tyc Try.prog 7).isSome = true := by rw [Try.tyc7]; rfl
theorem Try.tyc8 : tyc Try.prog 8 = some (true, 4) := by kernel_rfl
theorem Try.load8 {h : AH} {b o : Nat} : aload Try.prog h 8 (.pointer (some ⟨b, o, none⟩)) = mkLoad o (some (true, 4)) h[b]? := aload_eq Try.tyc8
theorem Try.loadF8 {h : AH} {c : Array Value} {n : Nat} : aload Try.prog h 8 (fp c n) = mkLoadF c n (some (true, 4)) := aload_fp Try.tyc8
theorem Try.store8 {h : AH} {b o : Nat} {v : Value} : astore Try.prog h 8 (.pointer (some ⟨b, o, none⟩)) v = mkStore h b o v (some (true, 4)) h[b]? := astore_eq' Try.tyc8
theorem Try.some8 : (tyc Try.prog 8).isSome = true := by rw [Try.tyc8]; rfl
theorem Try.tyc9 : tyc Try.prog 9 = some (false, 1) := by kernel_rfl
theorem Try.load9 {h : AH} {b o : Nat} : aload Try.prog h 9 (.pointer (some ⟨b, o, none⟩)) = mkLoad o (some (false, 1)) h[b]? := aload_eq Try.tyc9
theorem Try.loadF9 {h : AH} {c : Array Value} {n : Nat} : aload Try.prog h 9 (fp c n) = mkLoadF c n (some (false, 1)) := aload_fp Try.tyc9
theorem Try.store9 {h : AH} {b o : Nat} {v : Value} : astore Try.prog h 9 (.pointer (some ⟨b, o, none⟩)) v = mkStore h b o v (some (false, 1)) h[b]? := astore_eq' Try.tyc9
theorem Try.some9 : (tyc Try.prog 9).isSome = true := by rw [Try.tyc9]; rfl
theorem Try.tyc10 : tyc Try.prog 10 = some (false, 1) := by kernel_rfl
theorem Try.load10 {h : AH} {b o : Nat} : aload Try.prog h 10 (.pointer (some ⟨b, o, none⟩)) = mkLoad o (some (false, 1)) h[b]? := aload_eq Try.tyc10
theorem Try.loadF10 {h : AH} {c : Array Value} {n : Nat} : aload Try.prog h 10 (fp c n) = mkLoadF c n (some (false, 1)) := aload_fp Try.tyc10
theorem Try.store10 {h : AH} {b o : Nat} {v : Value} : astore Try.prog h 10 (.pointer (some ⟨b, o, none⟩)) v = mkStore h b o v (some (false, 1)) h[b]? := astore_eq' Try.tyc10
theorem Try.some10 : (tyc Try.prog 10).isSome = true := by rw [Try.tyc10]; rfl
theorem Try.tyc11 : tyc Try.prog 11 = some (false, 1) := by kernel_rfl
theorem Try.load11 {h : AH} {b o : Nat} : aload Try.prog h 11 (.pointer (some ⟨b, o, none⟩)) = mkLoad o (some (false, 1)) h[b]? := aload_eq Try.tyc11
theorem Try.loadF11 {h : AH} {c : Array Value} {n : Nat} : aload Try.prog h 11 (fp c n) = mkLoadF c n (some (false, 1)) := aload_fp Try.tyc11
theorem Try.store11 {h : AH} {b o : Nat} {v : Value} : astore Try.prog h 11 (.pointer (some ⟨b, o, none⟩)) v = mkStore h b o v (some (false, 1)) h[b]? := astore_eq' Try.tyc11
theorem Try.some11 : (tyc Try.prog 11).isSome = true := by rw [Try.tyc11]; rfl
theorem Try.tyc12 : tyc Try.prog 12 = some (false, 1) := by kernel_rfl
theorem Try.load12 {h : AH} {b o : Nat} : aload Try.prog h 12 (.pointer (some ⟨b, o, none⟩)) = mkLoad o (some (false, 1)) h[b]? := aload_eq Try.tyc12
theorem Try.loadF12 {h : AH} {c : Array Value} {n : Nat} : aload Try.prog h 12 (fp c n) = mkLoadF c n (some (false, 1)) := aload_fp Try.tyc12
theorem Try.store12 {h : AH} {b o : Nat} {v : Value} : astore Try.prog h 12 (.pointer (some ⟨b, o, none⟩)) v = mkStore h b o v (some (false, 1)) h[b]? := astore_eq' Try.tyc12
theorem Try.some12 : (tyc Try.prog 12).isSome = true := by rw [Try.tyc12]; rfl
theorem Try.tyc13 : tyc Try.prog 13 = some (true, 2) := by kernel_rfl
theorem Try.load13 {h : AH} {b o : Nat} : aload Try.prog h 13 (.pointer (some ⟨b, o, none⟩)) = mkLoad o (some (true, 2)) h[b]? := aload_eq Try.tyc13
theorem Try.loadF13 {h : AH} {c : Array Value} {n : Nat} : aload Try.prog h 13 (fp c n) = mkLoadF c n (some (true, 2)) := aload_fp Try.tyc13
theorem Try.store13 {h : AH} {b o : Nat} {v : Value} : astore Try.prog h 13 (.pointer (some ⟨b, o, none⟩)) v = mkStore h b o v (some (true, 2)) h[b]? := astore_eq' Try.tyc13
theorem Try.some13 : (tyc Try.prog 13).isSome = true := by rw [Try.tyc13]; rfl
theorem Try.tyc14 : tyc Try.prog 14 = some (true, 2) := by kernel_rfl
theorem Try.load14 {h : AH} {b o : Nat} : aload Try.prog h 14 (.pointer (some ⟨b, o, none⟩)) = mkLoad o (some (true, 2)) h[b]? := aload_eq Try.tyc14
theorem Try.loadF14 {h : AH} {c : Array Value} {n : Nat} : aload Try.prog h 14 (fp c n) = mkLoadF c n (some (true, 2)) := aload_fp Try.tyc14
theorem Try.store14 {h : AH} {b o : Nat} {v : Value} : astore Try.prog h 14 (.pointer (some ⟨b, o, none⟩)) v = mkStore h b o v (some (true, 2)) h[b]? := astore_eq' Try.tyc14
theorem Try.some14 : (tyc Try.prog 14).isSome = true := by rw [Try.tyc14]; rfl
theorem Try.tyc15 : tyc Try.prog 15 = some (false, 1) := by kernel_rfl
theorem Try.load15 {h : AH} {b o : Nat} : aload Try.prog h 15 (.pointer (some ⟨b, o, none⟩)) = mkLoad o (some (false, 1)) h[b]? := aload_eq Try.tyc15
theorem Try.loadF15 {h : AH} {c : Array Value} {n : Nat} : aload Try.prog h 15 (fp c n) = mkLoadF c n (some (false, 1)) := aload_fp Try.tyc15
theorem Try.store15 {h : AH} {b o : Nat} {v : Value} : astore Try.prog h 15 (.pointer (some ⟨b, o, none⟩)) v = mkStore h b o v (some (false, 1)) h[b]? := astore_eq' Try.tyc15
theorem Try.some15 : (tyc Try.prog 15).isSome = true := by rw [Try.tyc15]; rfl
theorem Try.tyc16 : tyc Try.prog 16 = some (false, 1) := by kernel_rfl
theorem Try.load16 {h : AH} {b o : Nat} : aload Try.prog h 16 (.pointer (some ⟨b, o, none⟩)) = mkLoad o (some (false, 1)) h[b]? := aload_eq Try.tyc16
theorem Try.loadF16 {h : AH} {c : Array Value} {n : Nat} : aload Try.prog h 16 (fp c n) = mkLoadF c n (some (false, 1)) := aload_fp Try.tyc16
theorem Try.store16 {h : AH} {b o : Nat} {v : Value} : astore Try.prog h 16 (.pointer (some ⟨b, o, none⟩)) v = mkStore h b o v (some (false, 1)) h[b]? := astore_eq' Try.tyc16
theorem Try.some16 : (tyc Try.prog 16).isSome = true := by rw [Try.tyc16]; rfl
theorem Try.tyc17 : tyc Try.prog 17 = some (false, 1) := by kernel_rfl
theorem Try.load17 {h : AH} {b o : Nat} : aload Try.prog h 17 (.pointer (some ⟨b, o, none⟩)) = mkLoad o (some (false, 1)) h[b]? := aload_eq Try.tyc17
theorem Try.loadF17 {h : AH} {c : Array Value} {n : Nat} : aload Try.prog h 17 (fp c n) = mkLoadF c n (some (false, 1)) := aload_fp Try.tyc17
theorem Try.store17 {h : AH} {b o : Nat} {v : Value} : astore Try.prog h 17 (.pointer (some ⟨b, o, none⟩)) v = mkStore h b o v (some (false, 1)) h[b]? := astore_eq' Try.tyc17
theorem Try.some17 : (tyc Try.prog 17).isSome = true := by rw [Try.tyc17]; rfl
theorem Try.tyc18 : tyc Try.prog 18 = some (true, 1) := by kernel_rfl
theorem Try.load18 {h : AH} {b o : Nat} : aload Try.prog h 18 (.pointer (some ⟨b, o, none⟩)) = mkLoad o (some (true, 1)) h[b]? := aload_eq Try.tyc18
theorem Try.loadF18 {h : AH} {c : Array Value} {n : Nat} : aload Try.prog h 18 (fp c n) = mkLoadF c n (some (true, 1)) := aload_fp Try.tyc18
theorem Try.store18 {h : AH} {b o : Nat} {v : Value} : astore Try.prog h 18 (.pointer (some ⟨b, o, none⟩)) v = mkStore h b o v (some (true, 1)) h[b]? := astore_eq' Try.tyc18
theorem Try.some18 : (tyc Try.prog 18).isSome = true := by rw [Try.tyc18]; rfl
theorem Try.tyc19 : tyc Try.prog 19 = some (true, 1) := by kernel_rfl
theorem Try.load19 {h : AH} {b o : Nat} : aload Try.prog h 19 (.pointer (some ⟨b, o, none⟩)) = mkLoad o (some (true, 1)) h[b]? := aload_eq Try.tyc19
theorem Try.loadF19 {h : AH} {c : Array Value} {n : Nat} : aload Try.prog h 19 (fp c n) = mkLoadF c n (some (true, 1)) := aload_fp Try.tyc19
theorem Try.store19 {h : AH} {b o : Nat} {v : Value} : astore Try.prog h 19 (.pointer (some ⟨b, o, none⟩)) v = mkStore h b o v (some (true, 1)) h[b]? := astore_eq' Try.tyc19
theorem Try.some19 : (tyc Try.prog 19).isSome = true := by rw [Try.tyc19]; rfl
theorem Try.tyc20 : tyc Try.prog 20 = some (false, 1) := by kernel_rfl
theorem Try.load20 {h : AH} {b o : Nat} : aload Try.prog h 20 (.pointer (some ⟨b, o, none⟩)) = mkLoad o (some (false, 1)) h[b]? := aload_eq Try.tyc20
theorem Try.loadF20 {h : AH} {c : Array Value} {n : Nat} : aload Try.prog h 20 (fp c n) = mkLoadF c n (some (false, 1)) := aload_fp Try.tyc20
theorem Try.store20 {h : AH} {b o : Nat} {v : Value} : astore Try.prog h 20 (.pointer (some ⟨b, o, none⟩)) v = mkStore h b o v (some (false, 1)) h[b]? := astore_eq' Try.tyc20
theorem Try.some20 : (tyc Try.prog 20).isSome = true := by rw [Try.tyc20]; rfl
theorem Try.tyc21 : tyc Try.prog 21 = some (false, 1) := by kernel_rfl
theorem Try.load21 {h : AH} {b o : Nat} : aload Try.prog h 21 (.pointer (some ⟨b, o, none⟩)) = mkLoad o (some (false, 1)) h[b]? := aload_eq Try.tyc21
theorem Try.loadF21 {h : AH} {c : Array Value} {n : Nat} : aload Try.prog h 21 (fp c n) = mkLoadF c n (some (false, 1)) := aload_fp Try.tyc21
theorem Try.store21 {h : AH} {b o : Nat} {v : Value} : astore Try.prog h 21 (.pointer (some ⟨b, o, none⟩)) v = mkStore h b o v (some (false, 1)) h[b]? := astore_eq' Try.tyc21
theorem Try.some21 : (tyc Try.prog 21).isSome = true := by rw [Try.tyc21]; rfl
theorem Try.tyc22 : tyc Try.prog 22 = some (false, 1) := by kernel_rfl
theorem Try.load22 {h : AH} {b o : Nat} : aload Try.prog h 22 (.pointer (some ⟨b, o, none⟩)) = mkLoad o (some (false, 1)) h[b]? := aload_eq Try.tyc22
theorem Try.loadF22 {h : AH} {c : Array Value} {n : Nat} : aload Try.prog h 22 (fp c n) = mkLoadF c n (some (false, 1)) := aload_fp Try.tyc22
theorem Try.store22 {h : AH} {b o : Nat} {v : Value} : astore Try.prog h 22 (.pointer (some ⟨b, o, none⟩)) v = mkStore h b o v (some (false, 1)) h[b]? := astore_eq' Try.tyc22
theorem Try.some22 : (tyc Try.prog 22).isSome = true := by rw [Try.tyc22]; rfl
theorem Try.tyc23 : tyc Try.prog 23 = some (true, 20) := by kernel_rfl
theorem Try.load23 {h : AH} {b o : Nat} : aload Try.prog h 23 (.pointer (some ⟨b, o, none⟩)) = mkLoad o (some (true, 20)) h[b]? := aload_eq Try.tyc23
theorem Try.loadF23 {h : AH} {c : Array Value} {n : Nat} : aload Try.prog h 23 (fp c n) = mkLoadF c n (some (true, 20)) := aload_fp Try.tyc23
theorem Try.store23 {h : AH} {b o : Nat} {v : Value} : astore Try.prog h 23 (.pointer (some ⟨b, o, none⟩)) v = mkStore h b o v (some (true, 20)) h[b]? := astore_eq' Try.tyc23
theorem Try.some23 : (tyc Try.prog 23).isSome = true := by rw [Try.tyc23]; rfl
theorem Try.tyc24 : tyc Try.prog 24 = some (true, 20) := by kernel_rfl
theorem Try.load24 {h : AH} {b o : Nat} : aload Try.prog h 24 (.pointer (some ⟨b, o, none⟩)) = mkLoad o (some (true, 20)) h[b]? := aload_eq Try.tyc24
theorem Try.loadF24 {h : AH} {c : Array Value} {n : Nat} : aload Try.prog h 24 (fp c n) = mkLoadF c n (some (true, 20)) := aload_fp Try.tyc24
theorem Try.store24 {h : AH} {b o : Nat} {v : Value} : astore Try.prog h 24 (.pointer (some ⟨b, o, none⟩)) v = mkStore h b o v (some (true, 20)) h[b]? := astore_eq' Try.tyc24
theorem Try.some24 : (tyc Try.prog 24).isSome = true := by rw [Try.tyc24]; rfl
theorem Try.tyc25 : tyc Try.prog 25 = some (false, 1) := by kernel_rfl
theorem Try.load25 {h : AH} {b o : Nat} : aload Try.prog h 25 (.pointer (some ⟨b, o, none⟩)) = mkLoad o (some (false, 1)) h[b]? := aload_eq Try.tyc25
theorem Try.loadF25 {h : AH} {c : Array Value} {n : Nat} : aload Try.prog h 25 (fp c n) = mkLoadF c n (some (false, 1)) := aload_fp Try.tyc25
theorem Try.store25 {h : AH} {b o : Nat} {v : Value} : astore Try.prog h 25 (.pointer (some ⟨b, o, none⟩)) v = mkStore h b o v (some (false, 1)) h[b]? := astore_eq' Try.tyc25
theorem Try.some25 : (tyc Try.prog 25).isSome = true := by rw [Try.tyc25]; rfl
theorem Try.tyc26 : tyc Try.prog 26 = some (false, 1) := by kernel_rfl
theorem Try.load26 {h : AH} {b o : Nat} : aload Try.prog h 26 (.pointer (some ⟨b, o, none⟩)) = mkLoad o (some (false, 1)) h[b]? := aload_eq Try.tyc26
theorem Try.loadF26 {h : AH} {c : Array Value} {n : Nat} : aload Try.prog h 26 (fp c n) = mkLoadF c n (some (false, 1)) := aload_fp Try.tyc26
theorem Try.store26 {h : AH} {b o : Nat} {v : Value} : astore Try.prog h 26 (.pointer (some ⟨b, o, none⟩)) v = mkStore h b o v (some (false, 1)) h[b]? := astore_eq' Try.tyc26
theorem Try.some26 : (tyc Try.prog 26).isSome = true := by rw [Try.tyc26]; rfl
theorem Try.tyc27 : tyc Try.prog 27 = some (false, 1) := by kernel_rfl
theorem Try.load27 {h : AH} {b o : Nat} : aload Try.prog h 27 (.pointer (some ⟨b, o, none⟩)) = mkLoad o (some (false, 1)) h[b]? := aload_eq Try.tyc27
theorem Try.loadF27 {h : AH} {c : Array Value} {n : Nat} : aload Try.prog h 27 (fp c n) = mkLoadF c n (some (false, 1)) := aload_fp Try.tyc27
theorem Try.store27 {h : AH} {b o : Nat} {v : Value} : astore Try.prog h 27 (.pointer (some ⟨b, o, none⟩)) v = mkStore h b o v (some (false, 1)) h[b]? := astore_eq' Try.tyc27
theorem Try.some27 : (tyc Try.prog 27).isSome = true := by rw [Try.tyc27]; rfl
theorem Try.tyc28 : tyc Try.prog 28 = some (false, 1) := by kernel_rfl
theorem Try.load28 {h : AH} {b o : Nat} : aload Try.prog h 28 (.pointer (some ⟨b, o, none⟩)) = mkLoad o (some (false, 1)) h[b]? := aload_eq Try.tyc28
theorem Try.loadF28 {h : AH} {c : Array Value} {n : Nat} : aload Try.prog h 28 (fp c n) = mkLoadF c n (some (false, 1)) := aload_fp Try.tyc28
theorem Try.store28 {h : AH} {b o : Nat} {v : Value} : astore Try.prog h 28 (.pointer (some ⟨b, o, none⟩)) v = mkStore h b o v (some (false, 1)) h[b]? := astore_eq' Try.tyc28
theorem Try.some28 : (tyc Try.prog 28).isSome = true := by rw [Try.tyc28]; rfl
theorem Try.tyc29 : tyc Try.prog 29 = some (true, 22) := by kernel_rfl
theorem Try.load29 {h : AH} {b o : Nat} : aload Try.prog h 29 (.pointer (some ⟨b, o, none⟩)) = mkLoad o (some (true, 22)) h[b]? := aload_eq Try.tyc29
theorem Try.loadF29 {h : AH} {c : Array Value} {n : Nat} : aload Try.prog h 29 (fp c n) = mkLoadF c n (some (true, 22)) := aload_fp Try.tyc29
theorem Try.store29 {h : AH} {b o : Nat} {v : Value} : astore Try.prog h 29 (.pointer (some ⟨b, o, none⟩)) v = mkStore h b o v (some (true, 22)) h[b]? := astore_eq' Try.tyc29
theorem Try.some29 : (tyc Try.prog 29).isSome = true := by rw [Try.tyc29]; rfl
theorem Try.tyc30 : tyc Try.prog 30 = some (true, 22) := by kernel_rfl
theorem Try.load30 {h : AH} {b o : Nat} : aload Try.prog h 30 (.pointer (some ⟨b, o, none⟩)) = mkLoad o (some (true, 22)) h[b]? := aload_eq Try.tyc30
theorem Try.loadF30 {h : AH} {c : Array Value} {n : Nat} : aload Try.prog h 30 (fp c n) = mkLoadF c n (some (true, 22)) := aload_fp Try.tyc30
theorem Try.store30 {h : AH} {b o : Nat} {v : Value} : astore Try.prog h 30 (.pointer (some ⟨b, o, none⟩)) v = mkStore h b o v (some (true, 22)) h[b]? := astore_eq' Try.tyc30
theorem Try.some30 : (tyc Try.prog 30).isSome = true := by rw [Try.tyc30]; rfl
theorem Try.tyc31 : tyc Try.prog 31 = some (false, 1) := by kernel_rfl
theorem Try.load31 {h : AH} {b o : Nat} : aload Try.prog h 31 (.pointer (some ⟨b, o, none⟩)) = mkLoad o (some (false, 1)) h[b]? := aload_eq Try.tyc31
theorem Try.loadF31 {h : AH} {c : Array Value} {n : Nat} : aload Try.prog h 31 (fp c n) = mkLoadF c n (some (false, 1)) := aload_fp Try.tyc31
theorem Try.store31 {h : AH} {b o : Nat} {v : Value} : astore Try.prog h 31 (.pointer (some ⟨b, o, none⟩)) v = mkStore h b o v (some (false, 1)) h[b]? := astore_eq' Try.tyc31
theorem Try.some31 : (tyc Try.prog 31).isSome = true := by rw [Try.tyc31]; rfl
theorem Try.tyc32 : tyc Try.prog 32 = some (false, 1) := by kernel_rfl
theorem Try.load32 {h : AH} {b o : Nat} : aload Try.prog h 32 (.pointer (some ⟨b, o, none⟩)) = mkLoad o (some (false, 1)) h[b]? := aload_eq Try.tyc32
theorem Try.loadF32 {h : AH} {c : Array Value} {n : Nat} : aload Try.prog h 32 (fp c n) = mkLoadF c n (some (false, 1)) := aload_fp Try.tyc32
theorem Try.store32 {h : AH} {b o : Nat} {v : Value} : astore Try.prog h 32 (.pointer (some ⟨b, o, none⟩)) v = mkStore h b o v (some (false, 1)) h[b]? := astore_eq' Try.tyc32
theorem Try.some32 : (tyc Try.prog 32).isSome = true := by rw [Try.tyc32]; rfl
theorem Try.tyc33 : tyc Try.prog 33 = some (false, 1) := by kernel_rfl
theorem Try.load33 {h : AH} {b o : Nat} : aload Try.prog h 33 (.pointer (some ⟨b, o, none⟩)) = mkLoad o (some (false, 1)) h[b]? := aload_eq Try.tyc33
theorem Try.loadF33 {h : AH} {c : Array Value} {n : Nat} : aload Try.prog h 33 (fp c n) = mkLoadF c n (some (false, 1)) := aload_fp Try.tyc33
theorem Try.store33 {h : AH} {b o : Nat} {v : Value} : astore Try.prog h 33 (.pointer (some ⟨b, o, none⟩)) v = mkStore h b o v (some (false, 1)) h[b]? := astore_eq' Try.tyc33
theorem Try.some33 : (tyc Try.prog 33).isSome = true := by rw [Try.tyc33]; rfl
theorem Try.tyc34 : tyc Try.prog 34 = some (false, 1) := by kernel_rfl
theorem Try.load34 {h : AH} {b o : Nat} : aload Try.prog h 34 (.pointer (some ⟨b, o, none⟩)) = mkLoad o (some (false, 1)) h[b]? := aload_eq Try.tyc34
theorem Try.loadF34 {h : AH} {c : Array Value} {n : Nat} : aload Try.prog h 34 (fp c n) = mkLoadF c n (some (false, 1)) := aload_fp Try.tyc34
theorem Try.store34 {h : AH} {b o : Nat} {v : Value} : astore Try.prog h 34 (.pointer (some ⟨b, o, none⟩)) v = mkStore h b o v (some (false, 1)) h[b]? := astore_eq' Try.tyc34
theorem Try.some34 : (tyc Try.prog 34).isSome = true := by rw [Try.tyc34]; rfl
theorem Try.tyc35 : tyc Try.prog 35 = some (false, 1) := by kernel_rfl
theorem Try.load35 {h : AH} {b o : Nat} : aload Try.prog h 35 (.pointer (some ⟨b, o, none⟩)) = mkLoad o (some (false, 1)) h[b]? := aload_eq Try.tyc35
theorem Try.loadF35 {h : AH} {c : Array Value} {n : Nat} : aload Try.prog h 35 (fp c n) = mkLoadF c n (some (false, 1)) := aload_fp Try.tyc35
theorem Try.store35 {h : AH} {b o : Nat} {v : Value} : astore Try.prog h 35 (.pointer (some ⟨b, o, none⟩)) v = mkStore h b o v (some (false, 1)) h[b]? := astore_eq' Try.tyc35
theorem Try.some35 : (tyc Try.prog 35).isSome = true := by rw [Try.tyc35]; rfl
theorem Try.tyc36 : tyc Try.prog 36 = some (false, 1) := by kernel_rfl
theorem Try.load36 {h : AH} {b o : Nat} : aload Try.prog h 36 (.pointer (some ⟨b, o, none⟩)) = mkLoad o (some (false, 1)) h[b]? := aload_eq Try.tyc36
theorem Try.loadF36 {h : AH} {c : Array Value} {n : Nat} : aload Try.prog h 36 (fp c n) = mkLoadF c n (some (false, 1)) := aload_fp Try.tyc36
theorem Try.store36 {h : AH} {b o : Nat} {v : Value} : astore Try.prog h 36 (.pointer (some ⟨b, o, none⟩)) v = mkStore h b o v (some (false, 1)) h[b]? := astore_eq' Try.tyc36
theorem Try.some36 : (tyc Try.prog 36).isSome = true := by rw [Try.tyc36]; rfl
theorem Try.tyc37 : tyc Try.prog 37 = some (false, 1) := by kernel_rfl
theorem Try.load37 {h : AH} {b o : Nat} : aload Try.prog h 37 (.pointer (some ⟨b, o, none⟩)) = mkLoad o (some (false, 1)) h[b]? := aload_eq Try.tyc37
theorem Try.loadF37 {h : AH} {c : Array Value} {n : Nat} : aload Try.prog h 37 (fp c n) = mkLoadF c n (some (false, 1)) := aload_fp Try.tyc37
theorem Try.store37 {h : AH} {b o : Nat} {v : Value} : astore Try.prog h 37 (.pointer (some ⟨b, o, none⟩)) v = mkStore h b o v (some (false, 1)) h[b]? := astore_eq' Try.tyc37
theorem Try.some37 : (tyc Try.prog 37).isSome = true := by rw [Try.tyc37]; rfl
theorem Try.tyc38 : tyc Try.prog 38 = some (false, 1) := by kernel_rfl
theorem Try.load38 {h : AH} {b o : Nat} : aload Try.prog h 38 (.pointer (some ⟨b, o, none⟩)) = mkLoad o (some (false, 1)) h[b]? := aload_eq Try.tyc38
theorem Try.loadF38 {h : AH} {c : Array Value} {n : Nat} : aload Try.prog h 38 (fp c n) = mkLoadF c n (some (false, 1)) := aload_fp Try.tyc38
theorem Try.store38 {h : AH} {b o : Nat} {v : Value} : astore Try.prog h 38 (.pointer (some ⟨b, o, none⟩)) v = mkStore h b o v (some (false, 1)) h[b]? := astore_eq' Try.tyc38
theorem Try.some38 : (tyc Try.prog 38).isSome = true := by rw [Try.tyc38]; rfl
theorem Try.tyc39 : tyc Try.prog 39 = some (false, 1) := by kernel_rfl
theorem Try.load39 {h : AH} {b o : Nat} : aload Try.prog h 39 (.pointer (some ⟨b, o, none⟩)) = mkLoad o (some (false, 1)) h[b]? := aload_eq Try.tyc39
theorem Try.loadF39 {h : AH} {c : Array Value} {n : Nat} : aload Try.prog h 39 (fp c n) = mkLoadF c n (some (false, 1)) := aload_fp Try.tyc39
theorem Try.store39 {h : AH} {b o : Nat} {v : Value} : astore Try.prog h 39 (.pointer (some ⟨b, o, none⟩)) v = mkStore h b o v (some (false, 1)) h[b]? := astore_eq' Try.tyc39
theorem Try.some39 : (tyc Try.prog 39).isSome = true := by rw [Try.tyc39]; rfl
theorem Try.tyc40 : tyc Try.prog 40 = some (false, 1) := by kernel_rfl
theorem Try.load40 {h : AH} {b o : Nat} : aload Try.prog h 40 (.pointer (some ⟨b, o, none⟩)) = mkLoad o (some (false, 1)) h[b]? := aload_eq Try.tyc40
theorem Try.loadF40 {h : AH} {c : Array Value} {n : Nat} : aload Try.prog h 40 (fp c n) = mkLoadF c n (some (false, 1)) := aload_fp Try.tyc40
theorem Try.store40 {h : AH} {b o : Nat} {v : Value} : astore Try.prog h 40 (.pointer (some ⟨b, o, none⟩)) v = mkStore h b o v (some (false, 1)) h[b]? := astore_eq' Try.tyc40
theorem Try.some40 : (tyc Try.prog 40).isSome = true := by rw [Try.tyc40]; rfl
theorem Try.tyc41 : tyc Try.prog 41 = some (false, 1) := by kernel_rfl
theorem Try.load41 {h : AH} {b o : Nat} : aload Try.prog h 41 (.pointer (some ⟨b, o, none⟩)) = mkLoad o (some (false, 1)) h[b]? := aload_eq Try.tyc41
theorem Try.loadF41 {h : AH} {c : Array Value} {n : Nat} : aload Try.prog h 41 (fp c n) = mkLoadF c n (some (false, 1)) := aload_fp Try.tyc41
theorem Try.store41 {h : AH} {b o : Nat} {v : Value} : astore Try.prog h 41 (.pointer (some ⟨b, o, none⟩)) v = mkStore h b o v (some (false, 1)) h[b]? := astore_eq' Try.tyc41
theorem Try.some41 : (tyc Try.prog 41).isSome = true := by rw [Try.tyc41]; rfl
theorem Try.tyc42 : tyc Try.prog 42 = some (false, 1) := by kernel_rfl
theorem Try.load42 {h : AH} {b o : Nat} : aload Try.prog h 42 (.pointer (some ⟨b, o, none⟩)) = mkLoad o (some (false, 1)) h[b]? := aload_eq Try.tyc42
theorem Try.loadF42 {h : AH} {c : Array Value} {n : Nat} : aload Try.prog h 42 (fp c n) = mkLoadF c n (some (false, 1)) := aload_fp Try.tyc42
theorem Try.store42 {h : AH} {b o : Nat} {v : Value} : astore Try.prog h 42 (.pointer (some ⟨b, o, none⟩)) v = mkStore h b o v (some (false, 1)) h[b]? := astore_eq' Try.tyc42
theorem Try.some42 : (tyc Try.prog 42).isSome = true := by rw [Try.tyc42]; rfl
theorem Try.tyc43 : tyc Try.prog 43 = some (false, 1) := by kernel_rfl
theorem Try.load43 {h : AH} {b o : Nat} : aload Try.prog h 43 (.pointer (some ⟨b, o, none⟩)) = mkLoad o (some (false, 1)) h[b]? := aload_eq Try.tyc43
theorem Try.loadF43 {h : AH} {c : Array Value} {n : Nat} : aload Try.prog h 43 (fp c n) = mkLoadF c n (some (false, 1)) := aload_fp Try.tyc43
theorem Try.store43 {h : AH} {b o : Nat} {v : Value} : astore Try.prog h 43 (.pointer (some ⟨b, o, none⟩)) v = mkStore h b o v (some (false, 1)) h[b]? := astore_eq' Try.tyc43
theorem Try.some43 : (tyc Try.prog 43).isSome = true := by rw [Try.tyc43]; rfl
theorem Try.tyc44 : tyc Try.prog 44 = some (false, 1) := by kernel_rfl
theorem Try.load44 {h : AH} {b o : Nat} : aload Try.prog h 44 (.pointer (some ⟨b, o, none⟩)) = mkLoad o (some (false, 1)) h[b]? := aload_eq Try.tyc44
theorem Try.loadF44 {h : AH} {c : Array Value} {n : Nat} : aload Try.prog h 44 (fp c n) = mkLoadF c n (some (false, 1)) := aload_fp Try.tyc44
theorem Try.store44 {h : AH} {b o : Nat} {v : Value} : astore Try.prog h 44 (.pointer (some ⟨b, o, none⟩)) v = mkStore h b o v (some (false, 1)) h[b]? := astore_eq' Try.tyc44
theorem Try.some44 : (tyc Try.prog 44).isSome = true := by rw [Try.tyc44]; rfl
theorem Try.tyc45 : tyc Try.prog 45 = some (false, 1) := by kernel_rfl
theorem Try.load45 {h : AH} {b o : Nat} : aload Try.prog h 45 (.pointer (some ⟨b, o, none⟩)) = mkLoad o (some (false, 1)) h[b]? := aload_eq Try.tyc45
theorem Try.loadF45 {h : AH} {c : Array Value} {n : Nat} : aload Try.prog h 45 (fp c n) = mkLoadF c n (some (false, 1)) := aload_fp Try.tyc45
theorem Try.store45 {h : AH} {b o : Nat} {v : Value} : astore Try.prog h 45 (.pointer (some ⟨b, o, none⟩)) v = mkStore h b o v (some (false, 1)) h[b]? := astore_eq' Try.tyc45
theorem Try.some45 : (tyc Try.prog 45).isSome = true := by rw [Try.tyc45]; rfl
theorem Try.tyc46 : tyc Try.prog 46 = some (false, 1) := by kernel_rfl
theorem Try.load46 {h : AH} {b o : Nat} : aload Try.prog h 46 (.pointer (some ⟨b, o, none⟩)) = mkLoad o (some (false, 1)) h[b]? := aload_eq Try.tyc46
theorem Try.loadF46 {h : AH} {c : Array Value} {n : Nat} : aload Try.prog h 46 (fp c n) = mkLoadF c n (some (false, 1)) := aload_fp Try.tyc46
theorem Try.store46 {h : AH} {b o : Nat} {v : Value} : astore Try.prog h 46 (.pointer (some ⟨b, o, none⟩)) v = mkStore h b o v (some (false, 1)) h[b]? := astore_eq' Try.tyc46
theorem Try.some46 : (tyc Try.prog 46).isSome = true := by rw [Try.tyc46]; rfl
theorem Try.tyc47 : tyc Try.prog 47 = some (false, 1) := by kernel_rfl
theorem Try.load47 {h : AH} {b o : Nat} : aload Try.prog h 47 (.pointer (some ⟨b, o, none⟩)) = mkLoad o (some (false, 1)) h[b]? := aload_eq Try.tyc47
theorem Try.loadF47 {h : AH} {c : Array Value} {n : Nat} : aload Try.prog h 47 (fp c n) = mkLoadF c n (some (false, 1)) := aload_fp Try.tyc47
theorem Try.store47 {h : AH} {b o : Nat} {v : Value} : astore Try.prog h 47 (.pointer (some ⟨b, o, none⟩)) v = mkStore h b o v (some (false, 1)) h[b]? := astore_eq' Try.tyc47
theorem Try.some47 : (tyc Try.prog 47).isSome = true := by rw [Try.tyc47]; rfl
theorem Try.tyc48 : tyc Try.prog 48 = some (false, 1) := by kernel_rfl
theorem Try.load48 {h : AH} {b o : Nat} : aload Try.prog h 48 (.pointer (some ⟨b, o, none⟩)) = mkLoad o (some (false, 1)) h[b]? := aload_eq Try.tyc48
theorem Try.loadF48 {h : AH} {c : Array Value} {n : Nat} : aload Try.prog h 48 (fp c n) = mkLoadF c n (some (false, 1)) := aload_fp Try.tyc48
theorem Try.store48 {h : AH} {b o : Nat} {v : Value} : astore Try.prog h 48 (.pointer (some ⟨b, o, none⟩)) v = mkStore h b o v (some (false, 1)) h[b]? := astore_eq' Try.tyc48
theorem Try.some48 : (tyc Try.prog 48).isSome = true := by rw [Try.tyc48]; rfl
theorem Try.tyc49 : tyc Try.prog 49 = some (false, 1) := by kernel_rfl
theorem Try.load49 {h : AH} {b o : Nat} : aload Try.prog h 49 (.pointer (some ⟨b, o, none⟩)) = mkLoad o (some (false, 1)) h[b]? := aload_eq Try.tyc49
theorem Try.loadF49 {h : AH} {c : Array Value} {n : Nat} : aload Try.prog h 49 (fp c n) = mkLoadF c n (some (false, 1)) := aload_fp Try.tyc49
theorem Try.store49 {h : AH} {b o : Nat} {v : Value} : astore Try.prog h 49 (.pointer (some ⟨b, o, none⟩)) v = mkStore h b o v (some (false, 1)) h[b]? := astore_eq' Try.tyc49
theorem Try.some49 : (tyc Try.prog 49).isSome = true := by rw [Try.tyc49]; rfl
theorem Try.tyc50 : tyc Try.prog 50 = some (false, 1) := by kernel_rfl
theorem Try.load50 {h : AH} {b o : Nat} : aload Try.prog h 50 (.pointer (some ⟨b, o, none⟩)) = mkLoad o (some (false, 1)) h[b]? := aload_eq Try.tyc50
theorem Try.loadF50 {h : AH} {c : Array Value} {n : Nat} : aload Try.prog h 50 (fp c n) = mkLoadF c n (some (false, 1)) := aload_fp Try.tyc50
theorem Try.store50 {h : AH} {b o : Nat} {v : Value} : astore Try.prog h 50 (.pointer (some ⟨b, o, none⟩)) v = mkStore h b o v (some (false, 1)) h[b]? := astore_eq' Try.tyc50
theorem Try.some50 : (tyc Try.prog 50).isSome = true := by rw [Try.tyc50]; rfl
theorem Try.tyc51 : tyc Try.prog 51 = some (true, 4) := by kernel_rfl
theorem Try.load51 {h : AH} {b o : Nat} : aload Try.prog h 51 (.pointer (some ⟨b, o, none⟩)) = mkLoad o (some (true, 4)) h[b]? := aload_eq Try.tyc51
theorem Try.loadF51 {h : AH} {c : Array Value} {n : Nat} : aload Try.prog h 51 (fp c n) = mkLoadF c n (some (true, 4)) := aload_fp Try.tyc51
theorem Try.store51 {h : AH} {b o : Nat} {v : Value} : astore Try.prog h 51 (.pointer (some ⟨b, o, none⟩)) v = mkStore h b o v (some (true, 4)) h[b]? := astore_eq' Try.tyc51
theorem Try.some51 : (tyc Try.prog 51).isSome = true := by rw [Try.tyc51]; rfl
theorem Try.tyc52 : tyc Try.prog 52 = some (true, 4) := by kernel_rfl
theorem Try.load52 {h : AH} {b o : Nat} : aload Try.prog h 52 (.pointer (some ⟨b, o, none⟩)) = mkLoad o (some (true, 4)) h[b]? := aload_eq Try.tyc52
theorem Try.loadF52 {h : AH} {c : Array Value} {n : Nat} : aload Try.prog h 52 (fp c n) = mkLoadF c n (some (true, 4)) := aload_fp Try.tyc52
theorem Try.store52 {h : AH} {b o : Nat} {v : Value} : astore Try.prog h 52 (.pointer (some ⟨b, o, none⟩)) v = mkStore h b o v (some (true, 4)) h[b]? := astore_eq' Try.tyc52
theorem Try.some52 : (tyc Try.prog 52).isSome = true := by rw [Try.tyc52]; rfl
theorem Try.tyc53 : tyc Try.prog 53 = some (true, 0) := by kernel_rfl
theorem Try.load53 {h : AH} {b o : Nat} : aload Try.prog h 53 (.pointer (some ⟨b, o, none⟩)) = mkLoad o (some (true, 0)) h[b]? := aload_eq Try.tyc53
theorem Try.loadF53 {h : AH} {c : Array Value} {n : Nat} : aload Try.prog h 53 (fp c n) = mkLoadF c n (some (true, 0)) := aload_fp Try.tyc53
theorem Try.store53 {h : AH} {b o : Nat} {v : Value} : astore Try.prog h 53 (.pointer (some ⟨b, o, none⟩)) v = mkStore h b o v (some (true, 0)) h[b]? := astore_eq' Try.tyc53
theorem Try.some53 : (tyc Try.prog 53).isSome = true := by rw [Try.tyc53]; rfl
theorem Try.tyc54 : tyc Try.prog 54 = some (true, 0) := by kernel_rfl
theorem Try.load54 {h : AH} {b o : Nat} : aload Try.prog h 54 (.pointer (some ⟨b, o, none⟩)) = mkLoad o (some (true, 0)) h[b]? := aload_eq Try.tyc54
theorem Try.loadF54 {h : AH} {c : Array Value} {n : Nat} : aload Try.prog h 54 (fp c n) = mkLoadF c n (some (true, 0)) := aload_fp Try.tyc54
theorem Try.store54 {h : AH} {b o : Nat} {v : Value} : astore Try.prog h 54 (.pointer (some ⟨b, o, none⟩)) v = mkStore h b o v (some (true, 0)) h[b]? := astore_eq' Try.tyc54
theorem Try.some54 : (tyc Try.prog 54).isSome = true := by rw [Try.tyc54]; rfl
theorem Try.tyc55 : tyc Try.prog 55 = some (true, 0) := by kernel_rfl
theorem Try.load55 {h : AH} {b o : Nat} : aload Try.prog h 55 (.pointer (some ⟨b, o, none⟩)) = mkLoad o (some (true, 0)) h[b]? := aload_eq Try.tyc55
theorem Try.loadF55 {h : AH} {c : Array Value} {n : Nat} : aload Try.prog h 55 (fp c n) = mkLoadF c n (some (true, 0)) := aload_fp Try.tyc55
theorem Try.store55 {h : AH} {b o : Nat} {v : Value} : astore Try.prog h 55 (.pointer (some ⟨b, o, none⟩)) v = mkStore h b o v (some (true, 0)) h[b]? := astore_eq' Try.tyc55
theorem Try.some55 : (tyc Try.prog 55).isSome = true := by rw [Try.tyc55]; rfl
theorem Try.tyc56 : tyc Try.prog 56 = some (false, 1) := by kernel_rfl
theorem Try.load56 {h : AH} {b o : Nat} : aload Try.prog h 56 (.pointer (some ⟨b, o, none⟩)) = mkLoad o (some (false, 1)) h[b]? := aload_eq Try.tyc56
theorem Try.loadF56 {h : AH} {c : Array Value} {n : Nat} : aload Try.prog h 56 (fp c n) = mkLoadF c n (some (false, 1)) := aload_fp Try.tyc56
theorem Try.store56 {h : AH} {b o : Nat} {v : Value} : astore Try.prog h 56 (.pointer (some ⟨b, o, none⟩)) v = mkStore h b o v (some (false, 1)) h[b]? := astore_eq' Try.tyc56
theorem Try.some56 : (tyc Try.prog 56).isSome = true := by rw [Try.tyc56]; rfl
theorem Try.tyc57 : tyc Try.prog 57 = some (false, 1) := by kernel_rfl
theorem Try.load57 {h : AH} {b o : Nat} : aload Try.prog h 57 (.pointer (some ⟨b, o, none⟩)) = mkLoad o (some (false, 1)) h[b]? := aload_eq Try.tyc57
theorem Try.loadF57 {h : AH} {c : Array Value} {n : Nat} : aload Try.prog h 57 (fp c n) = mkLoadF c n (some (false, 1)) := aload_fp Try.tyc57
theorem Try.store57 {h : AH} {b o : Nat} {v : Value} : astore Try.prog h 57 (.pointer (some ⟨b, o, none⟩)) v = mkStore h b o v (some (false, 1)) h[b]? := astore_eq' Try.tyc57
theorem Try.some57 : (tyc Try.prog 57).isSome = true := by rw [Try.tyc57]; rfl
theorem Try.tyc58 : tyc Try.prog 58 = some (false, 1) := by kernel_rfl
theorem Try.load58 {h : AH} {b o : Nat} : aload Try.prog h 58 (.pointer (some ⟨b, o, none⟩)) = mkLoad o (some (false, 1)) h[b]? := aload_eq Try.tyc58
theorem Try.loadF58 {h : AH} {c : Array Value} {n : Nat} : aload Try.prog h 58 (fp c n) = mkLoadF c n (some (false, 1)) := aload_fp Try.tyc58
theorem Try.store58 {h : AH} {b o : Nat} {v : Value} : astore Try.prog h 58 (.pointer (some ⟨b, o, none⟩)) v = mkStore h b o v (some (false, 1)) h[b]? := astore_eq' Try.tyc58
theorem Try.some58 : (tyc Try.prog 58).isSome = true := by rw [Try.tyc58]; rfl
theorem Try.tyc59 : tyc Try.prog 59 = some (false, 1) := by kernel_rfl
theorem Try.load59 {h : AH} {b o : Nat} : aload Try.prog h 59 (.pointer (some ⟨b, o, none⟩)) = mkLoad o (some (false, 1)) h[b]? := aload_eq Try.tyc59
theorem Try.loadF59 {h : AH} {c : Array Value} {n : Nat} : aload Try.prog h 59 (fp c n) = mkLoadF c n (some (false, 1)) := aload_fp Try.tyc59
theorem Try.store59 {h : AH} {b o : Nat} {v : Value} : astore Try.prog h 59 (.pointer (some ⟨b, o, none⟩)) v = mkStore h b o v (some (false, 1)) h[b]? := astore_eq' Try.tyc59
theorem Try.some59 : (tyc Try.prog 59).isSome = true := by rw [Try.tyc59]; rfl
theorem Try.tyc60 : tyc Try.prog 60 = some (false, 1) := by kernel_rfl
theorem Try.load60 {h : AH} {b o : Nat} : aload Try.prog h 60 (.pointer (some ⟨b, o, none⟩)) = mkLoad o (some (false, 1)) h[b]? := aload_eq Try.tyc60
theorem Try.loadF60 {h : AH} {c : Array Value} {n : Nat} : aload Try.prog h 60 (fp c n) = mkLoadF c n (some (false, 1)) := aload_fp Try.tyc60
theorem Try.store60 {h : AH} {b o : Nat} {v : Value} : astore Try.prog h 60 (.pointer (some ⟨b, o, none⟩)) v = mkStore h b o v (some (false, 1)) h[b]? := astore_eq' Try.tyc60
theorem Try.some60 : (tyc Try.prog 60).isSome = true := by rw [Try.tyc60]; rfl
theorem Try.tyc61 : tyc Try.prog 61 = some (false, 1) := by kernel_rfl
theorem Try.load61 {h : AH} {b o : Nat} : aload Try.prog h 61 (.pointer (some ⟨b, o, none⟩)) = mkLoad o (some (false, 1)) h[b]? := aload_eq Try.tyc61
theorem Try.loadF61 {h : AH} {c : Array Value} {n : Nat} : aload Try.prog h 61 (fp c n) = mkLoadF c n (some (false, 1)) := aload_fp Try.tyc61
theorem Try.store61 {h : AH} {b o : Nat} {v : Value} : astore Try.prog h 61 (.pointer (some ⟨b, o, none⟩)) v = mkStore h b o v (some (false, 1)) h[b]? := astore_eq' Try.tyc61
theorem Try.some61 : (tyc Try.prog 61).isSome = true := by rw [Try.tyc61]; rfl
theorem Try.tyc62 : tyc Try.prog 62 = some (false, 1) := by kernel_rfl
theorem Try.load62 {h : AH} {b o : Nat} : aload Try.prog h 62 (.pointer (some ⟨b, o, none⟩)) = mkLoad o (some (false, 1)) h[b]? := aload_eq Try.tyc62
theorem Try.loadF62 {h : AH} {c : Array Value} {n : Nat} : aload Try.prog h 62 (fp c n) = mkLoadF c n (some (false, 1)) := aload_fp Try.tyc62
theorem Try.store62 {h : AH} {b o : Nat} {v : Value} : astore Try.prog h 62 (.pointer (some ⟨b, o, none⟩)) v = mkStore h b o v (some (false, 1)) h[b]? := astore_eq' Try.tyc62
theorem Try.some62 : (tyc Try.prog 62).isSome = true := by rw [Try.tyc62]; rfl
theorem Try.tyc63 : tyc Try.prog 63 = some (false, 1) := by kernel_rfl
theorem Try.load63 {h : AH} {b o : Nat} : aload Try.prog h 63 (.pointer (some ⟨b, o, none⟩)) = mkLoad o (some (false, 1)) h[b]? := aload_eq Try.tyc63
theorem Try.loadF63 {h : AH} {c : Array Value} {n : Nat} : aload Try.prog h 63 (fp c n) = mkLoadF c n (some (false, 1)) := aload_fp Try.tyc63
theorem Try.store63 {h : AH} {b o : Nat} {v : Value} : astore Try.prog h 63 (.pointer (some ⟨b, o, none⟩)) v = mkStore h b o v (some (false, 1)) h[b]? := astore_eq' Try.tyc63
theorem Try.some63 : (tyc Try.prog 63).isSome = true := by rw [Try.tyc63]; rfl
theorem Try.tyc64 : tyc Try.prog 64 = some (true, 11) := by kernel_rfl
theorem Try.load64 {h : AH} {b o : Nat} : aload Try.prog h 64 (.pointer (some ⟨b, o, none⟩)) = mkLoad o (some (true, 11)) h[b]? := aload_eq Try.tyc64
theorem Try.loadF64 {h : AH} {c : Array Value} {n : Nat} : aload Try.prog h 64 (fp c n) = mkLoadF c n (some (true, 11)) := aload_fp Try.tyc64
theorem Try.store64 {h : AH} {b o : Nat} {v : Value} : astore Try.prog h 64 (.pointer (some ⟨b, o, none⟩)) v = mkStore h b o v (some (true, 11)) h[b]? := astore_eq' Try.tyc64
theorem Try.some64 : (tyc Try.prog 64).isSome = true := by rw [Try.tyc64]; rfl
theorem Try.tyc65 : tyc Try.prog 65 = some (true, 11) := by kernel_rfl
theorem Try.load65 {h : AH} {b o : Nat} : aload Try.prog h 65 (.pointer (some ⟨b, o, none⟩)) = mkLoad o (some (true, 11)) h[b]? := aload_eq Try.tyc65
theorem Try.loadF65 {h : AH} {c : Array Value} {n : Nat} : aload Try.prog h 65 (fp c n) = mkLoadF c n (some (true, 11)) := aload_fp Try.tyc65
theorem Try.store65 {h : AH} {b o : Nat} {v : Value} : astore Try.prog h 65 (.pointer (some ⟨b, o, none⟩)) v = mkStore h b o v (some (true, 11)) h[b]? := astore_eq' Try.tyc65
theorem Try.some65 : (tyc Try.prog 65).isSome = true := by rw [Try.tyc65]; rfl
theorem Try.tyc66 : tyc Try.prog 66 = some (false, 1) := by kernel_rfl
theorem Try.load66 {h : AH} {b o : Nat} : aload Try.prog h 66 (.pointer (some ⟨b, o, none⟩)) = mkLoad o (some (false, 1)) h[b]? := aload_eq Try.tyc66
theorem Try.loadF66 {h : AH} {c : Array Value} {n : Nat} : aload Try.prog h 66 (fp c n) = mkLoadF c n (some (false, 1)) := aload_fp Try.tyc66
theorem Try.store66 {h : AH} {b o : Nat} {v : Value} : astore Try.prog h 66 (.pointer (some ⟨b, o, none⟩)) v = mkStore h b o v (some (false, 1)) h[b]? := astore_eq' Try.tyc66
theorem Try.some66 : (tyc Try.prog 66).isSome = true := by rw [Try.tyc66]; rfl
theorem Try.fld7_0 : fld Try.prog 7 0 = some (0, false, 1) := by kernel_rfl
theorem Try.fieldAddr7_0 {b o : Nat} : afieldAddr Try.prog 7 (.pointer (some ⟨b, o, none⟩)) 0 = mkFieldAddr b o (some (0, false, 1)) := afieldAddr_eq' Try.fld7_0
theorem Try.fieldAddrF7_0 {c : Array Value} {n : Nat} : afieldAddr Try.prog 7 (fp c n) 0 = mkFieldAddrF c n (some (0, false, 1)) := afieldAddr_fp Try.fld7_0
theorem Try.field7_0 {c : Array Value} : afield Try.prog 7 (.agg c) 0 = mkField c (some (0, false, 1)) := afield_eq' Try.fld7_0
theorem Try.fld7_1 : fld Try.prog 7 1 = some (1, false, 1) := by kernel_rfl
theorem Try.fieldAddr7_1 {b o : Nat} : afieldAddr Try.prog 7 (.pointer (some ⟨b, o, none⟩)) 1 = mkFieldAddr b o (some (1, false, 1)) := afieldAddr_eq' Try.fld7_1
theorem Try.fieldAddrF7_1 {c : Array Value} {n : Nat} : afieldAddr Try.prog 7 (fp c n) 1 = mkFieldAddrF c n (some (1, false, 1)) := afieldAddr_fp Try.fld7_1
theorem Try.field7_1 {c : Array Value} : afield Try.prog 7 (.agg c) 1 = mkField c (some (1, false, 1)) := afield_eq' Try.fld7_1
theorem Try.fld7_2 : fld Try.prog 7 2 = some (2, false, 1) := by kernel_rfl
theorem Try.fieldAddr7_2 {b o : Nat} : afieldAddr Try.prog 7 (.pointer (some ⟨b, o, none⟩)) 2 = mkFieldAddr b o (some (2, false, 1)) := afieldAddr_eq' Try.fld7_2
theorem Try.fieldAddrF7_2 {c : Array Value} {n : Nat} : afieldAddr Try.prog 7 (fp c n) 2 = mkFieldAddrF c n (some (2, false, 1)) := afieldAddr_fp Try.fld7_2
theorem Try.field7_2 {c : Array Value} : afield Try.prog 7 (.agg c) 2 = mkField c (some (2, false, 1)) := afield_eq' Try.fld7_2
theorem Try.fld7_3 : fld Try.prog 7 3 = some (3, false, 1) := by kernel_rfl
theorem Try.fieldAddr7_3 {b o : Nat} : afieldAddr Try.prog 7 (.pointer (some ⟨b, o, none⟩)) 3 = mkFieldAddr b o (some (3, false, 1)) := afieldAddr_eq' Try.fld7_3
theorem Try.fieldAddrF7_3 {c : Array Value} {n : Nat} : afieldAddr Try.prog 7 (fp c n) 3 = mkFieldAddrF c n (some (3, false, 1)) := afieldAddr_fp Try.fld7_3
theorem Try.field7_3 {c : Array Value} : afield Try.prog 7 (.agg c) 3 = mkField c (some (3, false, 1)) := afield_eq' Try.fld7_3
theorem Try.fld8_0 : fld Try.prog 8 0 = some (0, false, 1) := by kernel_rfl
theorem Try.fieldAddr8_0 {b o : Nat} : afieldAddr Try.prog 8 (.pointer (some ⟨b, o, none⟩)) 0 = mkFieldAddr b o (some (0, false, 1)) := afieldAddr_eq' Try.fld8_0
theorem Try.fieldAddrF8_0 {c : Array Value} {n : Nat} : afieldAddr Try.prog 8 (fp c n) 0 = mkFieldAddrF c n (some (0, false, 1)) := afieldAddr_fp Try.fld8_0
theorem Try.field8_0 {c : Array Value} : afield Try.prog 8 (.agg c) 0 = mkField c (some (0, false, 1)) := afield_eq' Try.fld8_0
theorem Try.fld8_1 : fld Try.prog 8 1 = some (1, false, 1) := by kernel_rfl
theorem Try.fieldAddr8_1 {b o : Nat} : afieldAddr Try.prog 8 (.pointer (some ⟨b, o, none⟩)) 1 = mkFieldAddr b o (some (1, false, 1)) := afieldAddr_eq' Try.fld8_1
theorem Try.fieldAddrF8_1 {c : Array Value} {n : Nat} : afieldAddr Try.prog 8 (fp c n) 1 = mkFieldAddrF c n (some (1, false, 1)) := afieldAddr_fp Try.fld8_1
theorem Try.field8_1 {c : Array Value} : afield Try.prog 8 (.agg c) 1 = mkField c (some (1, false, 1)) := afield_eq' Try.fld8_1
theorem Try.fld8_2 : fld Try.prog 8 2 = some (2, false, 1) := by kernel_rfl
theorem Try.fieldAddr8_2 {b o : Nat} : afieldAddr Try.prog 8 (.pointer (some ⟨b, o, none⟩)) 2 = mkFieldAddr b o (some (2, false, 1)) := afieldAddr_eq' Try.fld8_2
theorem Try.fieldAddrF8_2 {c : Array Value} {n : Nat} : afieldAddr Try.prog 8 (fp c n) 2 = mkFieldAddrF c n (some (2, false, 1)) := afieldAddr_fp Try.fld8_2
theorem Try.field8_2 {c : Array Value} : afield Try.prog 8 (.agg c) 2 = mkField c (some (2, false, 1)) := afield_eq' Try.fld8_2
theorem Try.fld8_3 : fld Try.prog 8 3 = some (3, false, 1) := by kernel_rfl
theorem Try.fieldAddr8_3 {b o : Nat} : afieldAddr Try.prog 8 (.pointer (some ⟨b, o, none⟩)) 3 = mkFieldAddr b o (some (3, false, 1)) := afieldAddr_eq' Try.fld8_3
theorem Try.fieldAddrF8_3 {c : Array Value} {n : Nat} : afieldAddr Try.prog 8 (fp c n) 3 = mkFieldAddrF c n (some (3, false, 1)) := afieldAddr_fp Try.fld8_3
theorem Try.field8_3 {c : Array Value} : afield Try.prog 8 (.agg c) 3 = mkField c (some (3, false, 1)) := afield_eq' Try.fld8_3
theorem Try.fld13_0 : fld Try.prog 13 0 = some (0, false, 1) := by kernel_rfl
theorem Try.fieldAddr13_0 {b o : Nat} : afieldAddr Try.prog 13 (.pointer (some ⟨b, o, none⟩)) 0 = mkFieldAddr b o (some (0, false, 1)) := afieldAddr_eq' Try.fld13_0
theorem Try.fieldAddrF13_0 {c : Array Value} {n : Nat} : afieldAddr Try.prog 13 (fp c n) 0 = mkFieldAddrF c n (some (0, false, 1)) := afieldAddr_fp Try.fld13_0
theorem Try.field13_0 {c : Array Value} : afield Try.prog 13 (.agg c) 0 = mkField c (some (0, false, 1)) := afield_eq' Try.fld13_0
theorem Try.fld13_1 : fld Try.prog 13 1 = some (1, false, 1) := by kernel_rfl
theorem Try.fieldAddr13_1 {b o : Nat} : afieldAddr Try.prog 13 (.pointer (some ⟨b, o, none⟩)) 1 = mkFieldAddr b o (some (1, false, 1)) := afieldAddr_eq' Try.fld13_1
theorem Try.fieldAddrF13_1 {c : Array Value} {n : Nat} : afieldAddr Try.prog 13 (fp c n) 1 = mkFieldAddrF c n (some (1, false, 1)) := afieldAddr_fp Try.fld13_1
theorem Try.field13_1 {c : Array Value} : afield Try.prog 13 (.agg c) 1 = mkField c (some (1, false, 1)) := afield_eq' Try.fld13_1
theorem Try.fld14_0 : fld Try.prog 14 0 = some (0, false, 1) := by kernel_rfl
theorem Try.fieldAddr14_0 {b o : Nat} : afieldAddr Try.prog 14 (.pointer (some ⟨b, o, none⟩)) 0 = mkFieldAddr b o (some (0, false, 1)) := afieldAddr_eq' Try.fld14_0
theorem Try.fieldAddrF14_0 {c : Array Value} {n : Nat} : afieldAddr Try.prog 14 (fp c n) 0 = mkFieldAddrF c n (some (0, false, 1)) := afieldAddr_fp Try.fld14_0
theorem Try.field14_0 {c : Array Value} : afield Try.prog 14 (.agg c) 0 = mkField c (some (0, false, 1)) := afield_eq' Try.fld14_0
theorem Try.fld14_1 : fld Try.prog 14 1 = some (1, false, 1) := by kernel_rfl
theorem Try.fieldAddr14_1 {b o : Nat} : afieldAddr Try.prog 14 (.pointer (some ⟨b, o, none⟩)) 1 = mkFieldAddr b o (some (1, false, 1)) := afieldAddr_eq' Try.fld14_1
theorem Try.fieldAddrF14_1 {c : Array Value} {n : Nat} : afieldAddr Try.prog 14 (fp c n) 1 = mkFieldAddrF c n (some (1, false, 1)) := afieldAddr_fp Try.fld14_1
theorem Try.field14_1 {c : Array Value} : afield Try.prog 14 (.agg c) 1 = mkField c (some (1, false, 1)) := afield_eq' Try.fld14_1
theorem Try.fld18_0 : fld Try.prog 18 0 = some (0, false, 1) := by kernel_rfl
theorem Try.fieldAddr18_0 {b o : Nat} : afieldAddr Try.prog 18 (.pointer (some ⟨b, o, none⟩)) 0 = mkFieldAddr b o (some (0, false, 1)) := afieldAddr_eq' Try.fld18_0
theorem Try.fieldAddrF18_0 {c : Array Value} {n : Nat} : afieldAddr Try.prog 18 (fp c n) 0 = mkFieldAddrF c n (some (0, false, 1)) := afieldAddr_fp Try.fld18_0
theorem Try.field18_0 {c : Array Value} : afield Try.prog 18 (.agg c) 0 = mkField c (some (0, false, 1)) := afield_eq' Try.fld18_0
theorem Try.fld19_0 : fld Try.prog 19 0 = some (0, false, 1) := by kernel_rfl
theorem Try.fieldAddr19_0 {b o : Nat} : afieldAddr Try.prog 19 (.pointer (some ⟨b, o, none⟩)) 0 = mkFieldAddr b o (some (0, false, 1)) := afieldAddr_eq' Try.fld19_0
theorem Try.fieldAddrF19_0 {c : Array Value} {n : Nat} : afieldAddr Try.prog 19 (fp c n) 0 = mkFieldAddrF c n (some (0, false, 1)) := afieldAddr_fp Try.fld19_0
theorem Try.field19_0 {c : Array Value} : afield Try.prog 19 (.agg c) 0 = mkField c (some (0, false, 1)) := afield_eq' Try.fld19_0
theorem Try.fld29_0 : fld Try.prog 29 0 = some (0, true, 20) := by kernel_rfl
theorem Try.fieldAddr29_0 {b o : Nat} : afieldAddr Try.prog 29 (.pointer (some ⟨b, o, none⟩)) 0 = mkFieldAddr b o (some (0, true, 20)) := afieldAddr_eq' Try.fld29_0
theorem Try.fieldAddrF29_0 {c : Array Value} {n : Nat} : afieldAddr Try.prog 29 (fp c n) 0 = mkFieldAddrF c n (some (0, true, 20)) := afieldAddr_fp Try.fld29_0
theorem Try.field29_0 {c : Array Value} : afield Try.prog 29 (.agg c) 0 = mkField c (some (0, true, 20)) := afield_eq' Try.fld29_0
theorem Try.fld29_1 : fld Try.prog 29 1 = some (20, false, 1) := by kernel_rfl
theorem Try.fieldAddr29_1 {b o : Nat} : afieldAddr Try.prog 29 (.pointer (some ⟨b, o, none⟩)) 1 = mkFieldAddr b o (some (20, false, 1)) := afieldAddr_eq' Try.fld29_1
theorem Try.fieldAddrF29_1 {c : Array Value} {n : Nat} : afieldAddr Try.prog 29 (fp c n) 1 = mkFieldAddrF c n (some (20, false, 1)) := afieldAddr_fp Try.fld29_1
theorem Try.field29_1 {c : Array Value} : afield Try.prog 29 (.agg c) 1 = mkField c (some (20, false, 1)) := afield_eq' Try.fld29_1
theorem Try.fld29_2 : fld Try.prog 29 2 = some (21, false, 1) := by kernel_rfl
theorem Try.fieldAddr29_2 {b o : Nat} : afieldAddr Try.prog 29 (.pointer (some ⟨b, o, none⟩)) 2 = mkFieldAddr b o (some (21, false, 1)) := afieldAddr_eq' Try.fld29_2
theorem Try.fieldAddrF29_2 {c : Array Value} {n : Nat} : afieldAddr Try.prog 29 (fp c n) 2 = mkFieldAddrF c n (some (21, false, 1)) := afieldAddr_fp Try.fld29_2
theorem Try.field29_2 {c : Array Value} : afield Try.prog 29 (.agg c) 2 = mkField c (some (21, false, 1)) := afield_eq' Try.fld29_2
theorem Try.fld30_0 : fld Try.prog 30 0 = some (0, true, 20) := by kernel_rfl
theorem Try.fieldAddr30_0 {b o : Nat} : afieldAddr Try.prog 30 (.pointer (some ⟨b, o, none⟩)) 0 = mkFieldAddr b o (some (0, true, 20)) := afieldAddr_eq' Try.fld30_0
theorem Try.fieldAddrF30_0 {c : Array Value} {n : Nat} : afieldAddr Try.prog 30 (fp c n) 0 = mkFieldAddrF c n (some (0, true, 20)) := afieldAddr_fp Try.fld30_0
theorem Try.field30_0 {c : Array Value} : afield Try.prog 30 (.agg c) 0 = mkField c (some (0, true, 20)) := afield_eq' Try.fld30_0
theorem Try.fld30_1 : fld Try.prog 30 1 = some (20, false, 1) := by kernel_rfl
theorem Try.fieldAddr30_1 {b o : Nat} : afieldAddr Try.prog 30 (.pointer (some ⟨b, o, none⟩)) 1 = mkFieldAddr b o (some (20, false, 1)) := afieldAddr_eq' Try.fld30_1
theorem Try.fieldAddrF30_1 {c : Array Value} {n : Nat} : afieldAddr Try.prog 30 (fp c n) 1 = mkFieldAddrF c n (some (20, false, 1)) := afieldAddr_fp Try.fld30_1
theorem Try.field30_1 {c : Array Value} : afield Try.prog 30 (.agg c) 1 = mkField c (some (20, false, 1)) := afield_eq' Try.fld30_1
theorem Try.fld30_2 : fld Try.prog 30 2 = some (21, false, 1) := by kernel_rfl
theorem Try.fieldAddr30_2 {b o : Nat} : afieldAddr Try.prog 30 (.pointer (some ⟨b, o, none⟩)) 2 = mkFieldAddr b o (some (21, false, 1)) := afieldAddr_eq' Try.fld30_2
theorem Try.fieldAddrF30_2 {c : Array Value} {n : Nat} : afieldAddr Try.prog 30 (fp c n) 2 = mkFieldAddrF c n (some (21, false, 1)) := afieldAddr_fp Try.fld30_2
theorem Try.field30_2 {c : Array Value} : afield Try.prog 30 (.agg c) 2 = mkField c (some (21, false, 1)) := afield_eq' Try.fld30_2
theorem Try.fld51_0 : fld Try.prog 51 0 = some (0, false, 1) := by kernel_rfl
theorem Try.fieldAddr51_0 {b o : Nat} : afieldAddr Try.prog 51 (.pointer (some ⟨b, o, none⟩)) 0 = mkFieldAddr b o (some (0, false, 1)) := afieldAddr_eq' Try.fld51_0
theorem Try.fieldAddrF51_0 {c : Array Value} {n : Nat} : afieldAddr Try.prog 51 (fp c n) 0 = mkFieldAddrF c n (some (0, false, 1)) := afieldAddr_fp Try.fld51_0
theorem Try.field51_0 {c : Array Value} : afield Try.prog 51 (.agg c) 0 = mkField c (some (0, false, 1)) := afield_eq' Try.fld51_0
theorem Try.fld51_1 : fld Try.prog 51 1 = some (1, false, 1) := by kernel_rfl
theorem Try.fieldAddr51_1 {b o : Nat} : afieldAddr Try.prog 51 (.pointer (some ⟨b, o, none⟩)) 1 = mkFieldAddr b o (some (1, false, 1)) := afieldAddr_eq' Try.fld51_1
theorem Try.fieldAddrF51_1 {c : Array Value} {n : Nat} : afieldAddr Try.prog 51 (fp c n) 1 = mkFieldAddrF c n (some (1, false, 1)) := afieldAddr_fp Try.fld51_1
theorem Try.field51_1 {c : Array Value} : afield Try.prog 51 (.agg c) 1 = mkField c (some (1, false, 1)) := afield_eq' Try.fld51_1
theorem Try.fld51_2 : fld Try.prog 51 2 = some (2, false, 1) := by kernel_rfl
theorem Try.fieldAddr51_2 {b o : Nat} : afieldAddr Try.prog 51 (.pointer (some ⟨b, o, none⟩)) 2 = mkFieldAddr b o (some (2, false, 1)) := afieldAddr_eq' Try.fld51_2
theorem Try.fieldAddrF51_2 {c : Array Value} {n : Nat} : afieldAddr Try.prog 51 (fp c n) 2 = mkFieldAddrF c n (some (2, false, 1)) := afieldAddr_fp Try.fld51_2
theorem Try.field51_2 {c : Array Value} : afield Try.prog 51 (.agg c) 2 = mkField c (some (2, false, 1)) := afield_eq' Try.fld51_2
theorem Try.fld51_3 : fld Try.prog 51 3 = some (3, false, 1) := by kernel_rfl
theorem Try.fieldAddr51_3 {b o : Nat} : afieldAddr Try.prog 51 (.pointer (some ⟨b, o, none⟩)) 3 = mkFieldAddr b o (some (3, false, 1)) := afieldAddr_eq' Try.fld51_3
theorem Try.fieldAddrF51_3 {c : Array Value} {n : Nat} : afieldAddr Try.prog 51 (fp c n) 3 = mkFieldAddrF c n (some (3, false, 1)) := afieldAddr_fp Try.fld51_3
theorem Try.field51_3 {c : Array Value} : afield Try.prog 51 (.agg c) 3 = mkField c (some (3, false, 1)) := afield_eq' Try.fld51_3
theorem Try.fld52_0 : fld Try.prog 52 0 = some (0, false, 1) := by kernel_rfl
theorem Try.fieldAddr52_0 {b o : Nat} : afieldAddr Try.prog 52 (.pointer (some ⟨b, o, none⟩)) 0 = mkFieldAddr b o (some (0, false, 1)) := afieldAddr_eq' Try.fld52_0
theorem Try.fieldAddrF52_0 {c : Array Value} {n : Nat} : afieldAddr Try.prog 52 (fp c n) 0 = mkFieldAddrF c n (some (0, false, 1)) := afieldAddr_fp Try.fld52_0
theorem Try.field52_0 {c : Array Value} : afield Try.prog 52 (.agg c) 0 = mkField c (some (0, false, 1)) := afield_eq' Try.fld52_0
theorem Try.fld52_1 : fld Try.prog 52 1 = some (1, false, 1) := by kernel_rfl
theorem Try.fieldAddr52_1 {b o : Nat} : afieldAddr Try.prog 52 (.pointer (some ⟨b, o, none⟩)) 1 = mkFieldAddr b o (some (1, false, 1)) := afieldAddr_eq' Try.fld52_1
theorem Try.fieldAddrF52_1 {c : Array Value} {n : Nat} : afieldAddr Try.prog 52 (fp c n) 1 = mkFieldAddrF c n (some (1, false, 1)) := afieldAddr_fp Try.fld52_1
theorem Try.field52_1 {c : Array Value} : afield Try.prog 52 (.agg c) 1 = mkField c (some (1, false, 1)) := afield_eq' Try.fld52_1
theorem Try.fld52_2 : fld Try.prog 52 2 = some (2, false, 1) := by kernel_rfl
theorem Try.fieldAddr52_2 {b o : Nat} : afieldAddr Try.prog 52 (.pointer (some ⟨b, o, none⟩)) 2 = mkFieldAddr b o (some (2, false, 1)) := afieldAddr_eq' Try.fld52_2
theorem Try.fieldAddrF52_2 {c : Array Value} {n : Nat} : afieldAddr Try.prog 52 (fp c n) 2 = mkFieldAddrF c n (some (2, false, 1)) := afieldAddr_fp Try.fld52_2
theorem Try.field52_2 {c : Array Value} : afield Try.prog 52 (.agg c) 2 = mkField c (some (2, false, 1)) := afield_eq' Try.fld52_2
theorem Try.fld52_3 : fld Try.prog 52 3 = some (3, false, 1) := by kernel_rfl
theorem Try.fieldAddr52_3 {b o : Nat} : afieldAddr Try.prog 52 (.pointer (some ⟨b, o, none⟩)) 3 = mkFieldAddr b o (some (3, false, 1)) := afieldAddr_eq' Try.fld52_3
theorem Try.fieldAddrF52_3 {c : Array Value} {n : Nat} : afieldAddr Try.prog 52 (fp c n) 3 = mkFieldAddrF c n (some (3, false, 1)) := afieldAddr_fp Try.fld52_3
theorem Try.field52_3 {c : Array Value} : afield Try.prog 52 (.agg c) 3 = mkField c (some (3, false, 1)) := afield_eq' Try.fld52_3
theorem Try.fld54_0 : fld Try.prog 54 0 = some (0, true, 0) := by kernel_rfl
theorem Try.fieldAddr54_0 {b o : Nat} : afieldAddr Try.prog 54 (.pointer (some ⟨b, o, none⟩)) 0 = mkFieldAddr b o (some (0, true, 0)) := afieldAddr_eq' Try.fld54_0
theorem Try.fieldAddrF54_0 {c : Array Value} {n : Nat} : afieldAddr Try.prog 54 (fp c n) 0 = mkFieldAddrF c n (some (0, true, 0)) := afieldAddr_fp Try.fld54_0
theorem Try.field54_0 {c : Array Value} : afield Try.prog 54 (.agg c) 0 = mkField c (some (0, true, 0)) := afield_eq' Try.fld54_0
theorem Try.fld55_0 : fld Try.prog 55 0 = some (0, true, 0) := by kernel_rfl
theorem Try.fieldAddr55_0 {b o : Nat} : afieldAddr Try.prog 55 (.pointer (some ⟨b, o, none⟩)) 0 = mkFieldAddr b o (some (0, true, 0)) := afieldAddr_eq' Try.fld55_0
theorem Try.fieldAddrF55_0 {c : Array Value} {n : Nat} : afieldAddr Try.prog 55 (fp c n) 0 = mkFieldAddrF c n (some (0, true, 0)) := afieldAddr_fp Try.fld55_0
theorem Try.field55_0 {c : Array Value} : afield Try.prog 55 (.agg c) 0 = mkField c (some (0, true, 0)) := afield_eq' Try.fld55_0
theorem Try.fld64_0 : fld Try.prog 64 0 = some (0, false, 1) := by kernel_rfl
theorem Try.fieldAddr64_0 {b o : Nat} : afieldAddr Try.prog 64 (.pointer (some ⟨b, o, none⟩)) 0 = mkFieldAddr b o (some (0, false, 1)) := afieldAddr_eq' Try.fld64_0
theorem Try.fieldAddrF64_0 {c : Array Value} {n : Nat} : afieldAddr Try.prog 64 (fp c n) 0 = mkFieldAddrF c n (some (0, false, 1)) := afieldAddr_fp Try.fld64_0
theorem Try.field64_0 {c : Array Value} : afield Try.prog 64 (.agg c) 0 = mkField c (some (0, false, 1)) := afield_eq' Try.fld64_0
theorem Try.fld64_1 : fld Try.prog 64 1 = some (1, false, 1) := by kernel_rfl
theorem Try.fieldAddr64_1 {b o : Nat} : afieldAddr Try.prog 64 (.pointer (some ⟨b, o, none⟩)) 1 = mkFieldAddr b o (some (1, false, 1)) := afieldAddr_eq' Try.fld64_1
theorem Try.fieldAddrF64_1 {c : Array Value} {n : Nat} : afieldAddr Try.prog 64 (fp c n) 1 = mkFieldAddrF c n (some (1, false, 1)) := afieldAddr_fp Try.fld64_1
theorem Try.field64_1 {c : Array Value} : afield Try.prog 64 (.agg c) 1 = mkField c (some (1, false, 1)) := afield_eq' Try.fld64_1
theorem Try.fld64_2 : fld Try.prog 64 2 = some (2, false, 1) := by kernel_rfl
theorem Try.fieldAddr64_2 {b o : Nat} : afieldAddr Try.prog 64 (.pointer (some ⟨b, o, none⟩)) 2 = mkFieldAddr b o (some (2, false, 1)) := afieldAddr_eq' Try.fld64_2
theorem Try.fieldAddrF64_2 {c : Array Value} {n : Nat} : afieldAddr Try.prog 64 (fp c n) 2 = mkFieldAddrF c n (some (2, false, 1)) := afieldAddr_fp Try.fld64_2
theorem Try.field64_2 {c : Array Value} : afield Try.prog 64 (.agg c) 2 = mkField c (some (2, false, 1)) := afield_eq' Try.fld64_2
theorem Try.fld64_3 : fld Try.prog 64 3 = some (3, false, 1) := by kernel_rfl
theorem Try.fieldAddr64_3 {b o : Nat} : afieldAddr Try.prog 64 (.pointer (some ⟨b, o, none⟩)) 3 = mkFieldAddr b o (some (3, false, 1)) := afieldAddr_eq' Try.fld64_3
theorem Try.fieldAddrF64_3 {c : Array Value} {n : Nat} : afieldAddr Try.prog 64 (fp c n) 3 = mkFieldAddrF c n (some (3, false, 1)) := afieldAddr_fp Try.fld64_3
theorem Try.field64_3 {c : Array Value} : afield Try.prog 64 (.agg c) 3 = mkField c (some (3, false, 1)) := afield_eq' Try.fld64_3
theorem Try.fld64_4 : fld Try.prog 64 4 = some (4, false, 1) := by kernel_rfl
theorem Try.fieldAddr64_4 {b o : Nat} : afieldAddr Try.prog 64 (.pointer (some ⟨b, o, none⟩)) 4 = mkFieldAddr b o (some (4, false, 1)) := afieldAddr_eq' Try.fld64_4
theorem Try.fieldAddrF64_4 {c : Array Value} {n : Nat} : afieldAddr Try.prog 64 (fp c n) 4 = mkFieldAddrF c n (some (4, false, 1)) := afieldAddr_fp Try.fld64_4
theorem Try.field64_4 {c : Array Value} : afield Try.prog 64 (.agg c) 4 = mkField c (some (4, false, 1)) := afield_eq' Try.fld64_4
theorem Try.fld64_5 : fld Try.prog 64 5 = some (5, false, 1) := by kernel_rfl
theorem Try.fieldAddr64_5 {b o : Nat} : afieldAddr Try.prog 64 (.pointer (some ⟨b, o, none⟩)) 5 = mkFieldAddr b o (some (5, false, 1)) := afieldAddr_eq' Try.fld64_5
theorem Try.fieldAddrF64_5 {c : Array Value} {n : Nat} : afieldAddr Try.prog 64 (fp c n) 5 = mkFieldAddrF c n (some (5, false, 1)) := afieldAddr_fp Try.fld64_5
theorem Try.field64_5 {c : Array Value} : afield Try.prog 64 (.agg c) 5 = mkField c (some (5, false, 1)) := afield_eq' Try.fld64_5
theorem Try.fld64_6 : fld Try.prog 64 6 = some (6, false, 1) := by kernel_rfl
theorem Try.fieldAddr64_6 {b o : Nat} : afieldAddr Try.prog 64 (.pointer (some ⟨b, o, none⟩)) 6 = mkFieldAddr b o (some (6, false, 1)) := afieldAddr_eq' Try.fld64_6
theorem Try.fieldAddrF64_6 {c : Array Value} {n : Nat} : afieldAddr Try.prog 64 (fp c n) 6 = mkFieldAddrF c n (some (6, false, 1)) := afieldAddr_fp Try.fld64_6
theorem Try.field64_6 {c : Array Value} : afield Try.prog 64 (.agg c) 6 = mkField c (some (6, false, 1)) := afield_eq' Try.fld64_6
theorem Try.fld64_7 : fld Try.prog 64 7 = some (7, false, 1) := by kernel_rfl
theorem Try.fieldAddr64_7 {b o : Nat} : afieldAddr Try.prog 64 (.pointer (some ⟨b, o, none⟩)) 7 = mkFieldAddr b o (some (7, false, 1)) := afieldAddr_eq' Try.fld64_7
theorem Try.fieldAddrF64_7 {c : Array Value} {n : Nat} : afieldAddr Try.prog 64 (fp c n) 7 = mkFieldAddrF c n (some (7, false, 1)) := afieldAddr_fp Try.fld64_7
theorem Try.field64_7 {c : Array Value} : afield Try.prog 64 (.agg c) 7 = mkField c (some (7, false, 1)) := afield_eq' Try.fld64_7
theorem Try.fld64_8 : fld Try.prog 64 8 = some (8, false, 1) := by kernel_rfl
theorem Try.fieldAddr64_8 {b o : Nat} : afieldAddr Try.prog 64 (.pointer (some ⟨b, o, none⟩)) 8 = mkFieldAddr b o (some (8, false, 1)) := afieldAddr_eq' Try.fld64_8
theorem Try.fieldAddrF64_8 {c : Array Value} {n : Nat} : afieldAddr Try.prog 64 (fp c n) 8 = mkFieldAddrF c n (some (8, false, 1)) := afieldAddr_fp Try.fld64_8
theorem Try.field64_8 {c : Array Value} : afield Try.prog 64 (.agg c) 8 = mkField c (some (8, false, 1)) := afield_eq' Try.fld64_8
theorem Try.fld64_9 : fld Try.prog 64 9 = some (9, false, 1) := by kernel_rfl
theorem Try.fieldAddr64_9 {b o : Nat} : afieldAddr Try.prog 64 (.pointer (some ⟨b, o, none⟩)) 9 = mkFieldAddr b o (some (9, false, 1)) := afieldAddr_eq' Try.fld64_9
theorem Try.fieldAddrF64_9 {c : Array Value} {n : Nat} : afieldAddr Try.prog 64 (fp c n) 9 = mkFieldAddrF c n (some (9, false, 1)) := afieldAddr_fp Try.fld64_9
theorem Try.field64_9 {c : Array Value} : afield Try.prog 64 (.agg c) 9 = mkField c (some (9, false, 1)) := afield_eq' Try.fld64_9
theorem Try.fld64_10 : fld Try.prog 64 10 = some (10, false, 1) := by kernel_rfl
theorem Try.fieldAddr64_10 {b o : Nat} : afieldAddr Try.prog 64 (.pointer (some ⟨b, o, none⟩)) 10 = mkFieldAddr b o (some (10, false, 1)) := afieldAddr_eq' Try.fld64_10
theorem Try.fieldAddrF64_10 {c : Array Value} {n : Nat} : afieldAddr Try.prog 64 (fp c n) 10 = mkFieldAddrF c n (some (10, false, 1)) := afieldAddr_fp Try.fld64_10
theorem Try.field64_10 {c : Array Value} : afield Try.prog 64 (.agg c) 10 = mkField c (some (10, false, 1)) := afield_eq' Try.fld64_10
theorem Try.fld65_0 : fld Try.prog 65 0 = some (0, false, 1) := by kernel_rfl
theorem Try.fieldAddr65_0 {b o : Nat} : afieldAddr Try.prog 65 (.pointer (some ⟨b, o, none⟩)) 0 = mkFieldAddr b o (some (0, false, 1)) := afieldAddr_eq' Try.fld65_0
theorem Try.fieldAddrF65_0 {c : Array Value} {n : Nat} : afieldAddr Try.prog 65 (fp c n) 0 = mkFieldAddrF c n (some (0, false, 1)) := afieldAddr_fp Try.fld65_0
theorem Try.field65_0 {c : Array Value} : afield Try.prog 65 (.agg c) 0 = mkField c (some (0, false, 1)) := afield_eq' Try.fld65_0
theorem Try.fld65_1 : fld Try.prog 65 1 = some (1, false, 1) := by kernel_rfl
theorem Try.fieldAddr65_1 {b o : Nat} : afieldAddr Try.prog 65 (.pointer (some ⟨b, o, none⟩)) 1 = mkFieldAddr b o (some (1, false, 1)) := afieldAddr_eq' Try.fld65_1
theorem Try.fieldAddrF65_1 {c : Array Value} {n : Nat} : afieldAddr Try.prog 65 (fp c n) 1 = mkFieldAddrF c n (some (1, false, 1)) := afieldAddr_fp Try.fld65_1
theorem Try.field65_1 {c : Array Value} : afield Try.prog 65 (.agg c) 1 = mkField c (some (1, false, 1)) := afield_eq' Try.fld65_1
theorem Try.fld65_2 : fld Try.prog 65 2 = some (2, false, 1) := by kernel_rfl
theorem Try.fieldAddr65_2 {b o : Nat} : afieldAddr Try.prog 65 (.pointer (some ⟨b, o, none⟩)) 2 = mkFieldAddr b o (some (2, false, 1)) := afieldAddr_eq' Try.fld65_2
theorem Try.fieldAddrF65_2 {c : Array Value} {n : Nat} : afieldAddr Try.prog 65 (fp c n) 2 = mkFieldAddrF c n (some (2, false, 1)) := afieldAddr_fp Try.fld65_2
theorem Try.field65_2 {c : Array Value} : afield Try.prog 65 (.agg c) 2 = mkField c (some (2, false, 1)) := afield_eq' Try.fld65_2
theorem Try.fld65_3 : fld Try.prog 65 3 = some (3, false, 1) := by kernel_rfl
theorem Try.fieldAddr65_3 {b o : Nat} : afieldAddr Try.prog 65 (.pointer (some ⟨b, o, none⟩)) 3 = mkFieldAddr b o (some (3, false, 1)) := afieldAddr_eq' Try.fld65_3
theorem Try.fieldAddrF65_3 {c : Array Value} {n : Nat} : afieldAddr Try.prog 65 (fp c n) 3 = mkFieldAddrF c n (some (3, false, 1)) := afieldAddr_fp Try.fld65_3
theorem Try.field65_3 {c : Array Value} : afield Try.prog 65 (.agg c) 3 = mkField c (some (3, false, 1)) := afield_eq' Try.fld65_3
theorem Try.fld65_4 : fld Try.prog 65 4 = some (4, false, 1) := by kernel_rfl
theorem Try.fieldAddr65_4 {b o : Nat} : afieldAddr Try.prog 65 (.pointer (some ⟨b, o, none⟩)) 4 = mkFieldAddr b o (some (4, false, 1)) := afieldAddr_eq' Try.fld65_4
theorem Try.fieldAddrF65_4 {c : Array Value} {n : Nat} : afieldAddr Try.prog 65 (fp c n) 4 = mkFieldAddrF c n (some (4, false, 1)) := afieldAddr_fp Try.fld65_4
theorem Try.field65_4 {c : Array Value} : afield Try.prog 65 (.agg c) 4 = mkField c (some (4, false, 1)) := afield_eq' Try.fld65_4
theorem Try.fld65_5 : fld Try.prog 65 5 = some (5, false, 1) := by kernel_rfl
theorem Try.fieldAddr65_5 {b o : Nat} : afieldAddr Try.prog 65 (.pointer (some ⟨b, o, none⟩)) 5 = mkFieldAddr b o (some (5, false, 1)) := afieldAddr_eq' Try.fld65_5
theorem Try.fieldAddrF65_5 {c : Array Value} {n : Nat} : afieldAddr Try.prog 65 (fp c n) 5 = mkFieldAddrF c n (some (5, false, 1)) := afieldAddr_fp Try.fld65_5
theorem Try.field65_5 {c : Array Value} : afield Try.prog 65 (.agg c) 5 = mkField c (some (5, false, 1)) := afield_eq' Try.fld65_5
theorem Try.fld65_6 : fld Try.prog 65 6 = some (6, false, 1) := by kernel_rfl
theorem Try.fieldAddr65_6 {b o : Nat} : afieldAddr Try.prog 65 (.pointer (some ⟨b, o, none⟩)) 6 = mkFieldAddr b o (some (6, false, 1)) := afieldAddr_eq' Try.fld65_6
theorem Try.fieldAddrF65_6 {c : Array Value} {n : Nat} : afieldAddr Try.prog 65 (fp c n) 6 = mkFieldAddrF c n (some (6, false, 1)) := afieldAddr_fp Try.fld65_6
theorem Try.field65_6 {c : Array Value} : afield Try.prog 65 (.agg c) 6 = mkField c (some (6, false, 1)) := afield_eq' Try.fld65_6
theorem Try.fld65_7 : fld Try.prog 65 7 = some (7, false, 1) := by kernel_rfl
theorem Try.fieldAddr65_7 {b o : Nat} : afieldAddr Try.prog 65 (.pointer (some ⟨b, o, none⟩)) 7 = mkFieldAddr b o (some (7, false, 1)) := afieldAddr_eq' Try.fld65_7
theorem Try.fieldAddrF65_7 {c : Array Value} {n : Nat} : afieldAddr Try.prog 65 (fp c n) 7 = mkFieldAddrF c n (some (7, false, 1)) := afieldAddr_fp Try.fld65_7
theorem Try.field65_7 {c : Array Value} : afield Try.prog 65 (.agg c) 7 = mkField c (some (7, false, 1)) := afield_eq' Try.fld65_7
theorem Try.fld65_8 : fld Try.prog 65 8 = some (8, false, 1) := by kernel_rfl
theorem Try.fieldAddr65_8 {b o : Nat} : afieldAddr Try.prog 65 (.pointer (some ⟨b, o, none⟩)) 8 = mkFieldAddr b o (some (8, false, 1)) := afieldAddr_eq' Try.fld65_8
theorem Try.fieldAddrF65_8 {c : Array Value} {n : Nat} : afieldAddr Try.prog 65 (fp c n) 8 = mkFieldAddrF c n (some (8, false, 1)) := afieldAddr_fp Try.fld65_8
theorem Try.field65_8 {c : Array Value} : afield Try.prog 65 (.agg c) 8 = mkField c (some (8, false, 1)) := afield_eq' Try.fld65_8
theorem Try.fld65_9 : fld Try.prog 65 9 = some (9, false, 1) := by kernel_rfl
theorem Try.fieldAddr65_9 {b o : Nat} : afieldAddr Try.prog 65 (.pointer (some ⟨b, o, none⟩)) 9 = mkFieldAddr b o (some (9, false, 1)) := afieldAddr_eq' Try.fld65_9
theorem Try.fieldAddrF65_9 {c : Array Value} {n : Nat} : afieldAddr Try.prog 65 (fp c n) 9 = mkFieldAddrF c n (some (9, false, 1)) := afieldAddr_fp Try.fld65_9
theorem Try.field65_9 {c : Array Value} : afield Try.prog 65 (.agg c) 9 = mkField c (some (9, false, 1)) := afield_eq' Try.fld65_9
theorem Try.fld65_10 : fld Try.prog 65 10 = some (10, false, 1) := by kernel_rfl
theorem Try.fieldAddr65_10 {b o : Nat} : afieldAddr Try.prog 65 (.pointer (some ⟨b, o, none⟩)) 10 = mkFieldAddr b o (some (10, false, 1)) := afieldAddr_eq' Try.fld65_10
theorem Try.fieldAddrF65_10 {c : Array Value} {n : Nat} : afieldAddr Try.prog 65 (fp c n) 10 = mkFieldAddrF c n (some (10, false, 1)) := afieldAddr_fp Try.fld65_10
theorem Try.field65_10 {c : Array Value} : afield Try.prog 65 (.agg c) 10 = mkField c (some (10, false, 1)) := afield_eq' Try.fld65_10
theorem Try.zero1 : zeroCellsOf Try.prog 1 = some (#[Value.nilFunc]) := by kernel_rfl
theorem Try.alloc1 {h : AH} : aalloc Try.prog h 1 = mkAlloc h (some (#[Value.nilFunc])) := aalloc_eq' Try.zero1
theorem Try.zero2 : zeroCellsOf Try.prog 2 = some (#[Value.int IntKind.i64 (0)]) := by kernel_rfl
theorem Try.alloc2 {h : AH} : aalloc Try.prog h 2 = mkAlloc h (some (#[Value.int IntKind.i64 (0)])) := aalloc_eq' Try.zero2
theorem Try.zero3 : zeroCellsOf Try.prog 3 = some (#[Value.int IntKind.i64 (0)]) := by kernel_rfl
theorem Try.alloc3 {h : AH} : aalloc Try.prog h 3 = mkAlloc h (some (#[Value.int IntKind.i64 (0)])) := aalloc_eq' Try.zero3
theorem Try.zero4 : zeroCellsOf Try.prog 4 = some (#[Value.bool false]) := by kernel_rfl
theorem Try.alloc4 {h : AH} : aalloc Try.prog h 4 = mkAlloc h (some (#[Value.bool false])) := aalloc_eq' Try.zero4
theorem Try.zero5 : zeroCellsOf Try.prog 5 = some (#[Value.int IntKind.u8 (0)]) := by kernel_rfl
theorem Try.alloc5 {h : AH} : aalloc Try.prog h 5 = mkAlloc h (some (#[Value.int IntKind.u8 (0)])) := aalloc_eq' Try.zero5
theorem Try.zero6 : zeroCellsOf Try.prog 6 = some (#[Value.int IntKind.u8 (0)]) := by kernel_rfl
theorem Try.alloc6 {h : AH} : aalloc Try.prog h 6 = mkAlloc h (some (#[Value.int IntKind.u8 (0)])) := aalloc_eq' Try.zero6
theorem Try.zero7 : zeroCellsOf Try.prog 7 = some (#[Value.int IntKind.i64 (0), Value.int IntKind.i64 (0), Value.bool false, Value.int IntKind.u8 (0)]) := by kernel_rfl
theorem Try.alloc7 {h : AH} : aalloc Try.prog h 7 = mkAlloc h (some (#[Value.int IntKind.i64 (0), Value.int IntKind.i64 (0), Value.bool false, Value.int IntKind.u8 (0)])) := aalloc_eq' Try.zero7
theorem Try.zero8 : zeroCellsOf Try.prog 8 = some (#[Value.int IntKind.i64 (0), Value.int IntKind.i64 (0), Value.bool false, Value.int IntKind.u8 (0)]) := by kernel_rfl
theorem Try.alloc8 {h : AH} : aalloc Try.prog h 8 = mkAlloc h (some (#[Value.int IntKind.i64 (0), Value.int IntKind.i64 (0), Value.bool false, Value.int IntKind.u8 (0)])) := aalloc_eq' Try.zero8
theorem Try.zero9 : zeroCellsOf Try.prog 9 = some (#[Value.string { data := { toList := [] } }]) := by kernel_rfl
theorem Try.alloc9 {h : AH} : aalloc Try.prog h 9 = mkAlloc h (some (#[Value.string { data := { toList := [] } }])) := aalloc_eq' Try.zero9
theorem Try.zero10 : zeroCellsOf Try.prog 10 = some (#[Value.string { data := { toList := [] } }]) := by kernel_rfl
theorem Try.alloc10 {h : AH} : aalloc Try.prog h 10 = mkAlloc h (some (#[Value.string { data := { toList := [] } }])) := aalloc_eq' Try.zero10
theorem Try.zero11 : zeroCellsOf Try.prog 11 = some (#[Value.string { data := { toList := [] } }]) := by kernel_rfl
theorem Try.alloc11 {h : AH} : aalloc Try.prog h 11 = mkAlloc h (some (#[Value.string { data := { toList := [] } }])) := aalloc_eq' Try.zero11
theorem Try.zero12 : zeroCellsOf Try.prog 12 = some (#[Value.int IntKind.u64 (0)]) := by kernel_rfl
theorem Try.alloc12 {h : AH} : aalloc Try.prog h 12 = mkAlloc h (some (#[Value.int IntKind.u64 (0)])) := aalloc_eq' Try.zero12
theorem Try.zero13 : zeroCellsOf Try.prog 13 = some (#[Value.string { data := { toList := [] } }, Value.int IntKind.u64 (0)]) := by kernel_rfl
theorem Try.alloc13 {h : AH} : aalloc Try.prog h 13 = mkAlloc h (some (#[Value.string { data := { toList := [] } }, Value.int IntKind.u64 (0)])) := aalloc_eq' Try.zero13
theorem Try.zero14 : zeroCellsOf Try.prog 14 = some (#[Value.string { data := { toList := [] } }, Value.int IntKind.u64 (0)]) := by kernel_rfl
theorem Try.alloc14 {h : AH} : aalloc Try.prog h 14 = mkAlloc h (some (#[Value.string { data := { toList := [] } }, Value.int IntKind.u64 (0)])) := aalloc_eq' Try.zero14
theorem Try.zero15 : zeroCellsOf Try.prog 15 = some (#[Value.pointer none]) := by kernel_rfl
theorem Try.alloc15 {h : AH} : aalloc Try.prog h 15 = mkAlloc h (some (#[Value.pointer none])) := aalloc_eq' Try.zero15
theorem Try.zero16 : zeroCellsOf Try.prog 16 = some (#[Value.pointer none]) := by kernel_rfl
theorem Try.alloc16 {h : AH} : aalloc Try.prog h 16 = mkAlloc h (some (#[Value.pointer none])) := aalloc_eq' Try.zero16
theorem Try.zero17 : zeroCellsOf Try.prog 17 = some (#[Value.pointer none]) := by kernel_rfl
theorem Try.alloc17 {h : AH} : aalloc Try.prog h 17 = mkAlloc h (some (#[Value.pointer none])) := aalloc_eq' Try.zero17
theorem Try.zero18 : zeroCellsOf Try.prog 18 = some (#[Value.pointer none]) := by kernel_rfl
theorem Try.alloc18 {h : AH} : aalloc Try.prog h 18 = mkAlloc h (some (#[Value.pointer none])) := aalloc_eq' Try.zero18
theorem Try.zero19 : zeroCellsOf Try.prog 19 = some (#[Value.pointer none]) := by kernel_rfl
theorem Try.alloc19 {h : AH} : aalloc Try.prog h 19 = mkAlloc h (some (#[Value.pointer none])) := aalloc_eq' Try.zero19
theorem Try.zero20 : zeroCellsOf Try.prog 20 = some (#[Value.nilIface]) := by kernel_rfl
theorem Try.alloc20 {h : AH} : aalloc Try.prog h 20 = mkAlloc h (some (#[Value.nilIface])) := aalloc_eq' Try.zero20
theorem Try.zero21 : zeroCellsOf Try.prog 21 = some (#[Value.int IntKind.i32 (0)]) := by kernel_rfl
theorem Try.alloc21 {h : AH} : aalloc Try.prog h 21 = mkAlloc h (some (#[Value.int IntKind.i32 (0)])) := aalloc_eq' Try.zero21
theorem Try.zero22 : zeroCellsOf Try.prog 22 = some (#[Value.slice none 0 0]) := by kernel_rfl
theorem Try.alloc22 {h : AH} : aalloc Try.prog h 22 = mkAlloc h (some (#[Value.slice none 0 0])) := aalloc_eq' Try.zero22
theorem Try.zero23 : zeroCellsOf Try.prog 23 = some ((Array.replicate 20 (Value.int IntKind.u8 (0)))) := by kernel_rfl
theorem Try.alloc23 {h : AH} : aalloc Try.prog h 23 = mkAlloc h (some ((Array.replicate 20 (Value.int IntKind.u8 (0))))) := aalloc_eq' Try.zero23
theorem Try.zero24 : zeroCellsOf Try.prog 24 = some ((Array.replicate 20 (Value.int IntKind.u8 (0)))) := by kernel_rfl
theorem Try.alloc24 {h : AH} : aalloc Try.prog h 24 = mkAlloc h (some ((Array.replicate 20 (Value.int IntKind.u8 (0))))) := aalloc_eq' Try.zero24
theorem Try.zero25 : zeroCellsOf Try.prog 25 = some (#[Value.nilFunc]) := by kernel_rfl
theorem Try.alloc25 {h : AH} : aalloc Try.prog h 25 = mkAlloc h (some (#[Value.nilFunc])) := aalloc_eq' Try.zero25
theorem Try.zero26 : zeroCellsOf Try.prog 26 = some (#[Value.slice none 0 0]) := by kernel_rfl
theorem Try.alloc26 {h : AH} : aalloc Try.prog h 26 = mkAlloc h (some (#[Value.slice none 0 0])) := aalloc_eq' Try.zero26
theorem Try.zero27 : zeroCellsOf Try.prog 27 = some (#[Value.int IntKind.u64 (0)]) := by kernel_rfl
theorem Try.alloc27 {h : AH} : aalloc Try.prog h 27 = mkAlloc h (some (#[Value.int IntKind.u64 (0)])) := aalloc_eq' Try.zero27
theorem Try.zero28 : zeroCellsOf Try.prog 28 = some (#[Value.nilFunc]) := by kernel_rfl
theorem Try.alloc28 {h : AH} : aalloc Try.prog h 28 = mkAlloc h (some (#[Value.nilFunc])) := aalloc_eq' Try.zero28
theorem Try.zero29 : zeroCellsOf Try.prog 29 = some ((Array.replicate 20 (Value.int IntKind.u8 (0))) ++ (#[Value.int IntKind.u64 (0), Value.int IntKind.u64 (0)])) := by kernel_rfl
theorem Try.alloc29 {h : AH} : aalloc Try.prog h 29 = mkAlloc h (some ((Array.replicate 20 (Value.int IntKind.u8 (0))) ++ (#[Value.int IntKind.u64 (0), Value.int IntKind.u64 (0)]))) := aalloc_eq' Try.zero29
theorem Try.zero30 : zeroCellsOf Try.prog 30 = some ((Array.replicate 20 (Value.int IntKind.u8 (0))) ++ (#[Value.int IntKind.u64 (0), Value.int IntKind.u64 (0)])) := by kernel_rfl
theorem Try.alloc30 {h : AH} : aalloc Try.prog h 30 = mkAlloc h (some ((Array.replicate 20 (Value.int IntKind.u8 (0))) ++ (#[Value.int IntKind.u64 (0), Value.int IntKind.u64 (0)]))) := aalloc_eq' Try.zero30
theorem Try.zero31 : zeroCellsOf Try.prog 31 = some (#[Value.nilFunc]) := by kernel_rfl
theorem Try.alloc31 {h : AH} : aalloc Try.prog h 31 = mkAlloc h (some (#[Value.nilFunc])) := aalloc_eq' Try.zero31
theorem Try.zero32 : zeroCellsOf Try.prog 32 = some (#[Value.nilFunc]) := by kernel_rfl
theorem Try.alloc32 {h : AH} : aalloc Try.prog h 32 = mkAlloc h (some (#[Value.nilFunc])) := aalloc_eq' Try.zero32
theorem Try.zero33 : zeroCellsOf Try.prog 33 = some (#[Value.nilFunc]) := by kernel_rfl
theorem Try.alloc33 {h : AH} : aalloc Try.prog h 33 = mkAlloc h (some (#[Value.nilFunc])) := aalloc_eq' Try.zero33
theorem Try.zero34 : zeroCellsOf Try.prog 34 = some (#[Value.nilFunc]) := by kernel_rfl
theorem Try.alloc34 {h : AH} : aalloc Try.prog h 34 = mkAlloc h (some (#[Value.nilFunc])) := aalloc_eq' Try.zero34
theorem Try.zero35 : zeroCellsOf Try.prog 35 = some (#[Value.nilFunc]) := by kernel_rfl
theorem Try.alloc35 {h : AH} : aalloc Try.prog h 35 = mkAlloc h (some (#[Value.nilFunc])) := aalloc_eq' Try.zero35
theorem Try.zero36 : zeroCellsOf Try.prog 36 = some (#[Value.nilFunc]) := by kernel_rfl
theorem Try.alloc36 {h : AH} : aalloc Try.prog h 36 = mkAlloc h (some (#[Value.nilFunc])) := aalloc_eq' Try.zero36
theorem Try.zero37 : zeroCellsOf Try.prog 37 = some (#[Value.nilFunc]) := by kernel_rfl
theorem Try.alloc37 {h : AH} : aalloc Try.prog h 37 = mkAlloc h (some (#[Value.nilFunc])) := aalloc_eq' Try.zero37
theorem Try.zero39 : zeroCellsOf Try.prog 39 = some (#[Value.nilFunc]) := by kernel_rfl
theorem Try.alloc39 {h : AH} : aalloc Try.prog h 39 = mkAlloc h (some (#[Value.nilFunc])) := aalloc_eq' Try.zero39
theorem Try.zero40 : zeroCellsOf Try.prog 40 = some (#[Value.nilFunc]) := by kernel_rfl
theorem Try.alloc40 {h : AH} : aalloc Try.prog h 40 = mkAlloc h (some (#[Value.nilFunc])) := aalloc_eq' Try.zero40
theorem Try.zero41 : zeroCellsOf Try.prog 41 = some (#[Value.nilFunc]) := by kernel_rfl
theorem Try.alloc41 {h : AH} : aalloc Try.prog h 41 = mkAlloc h (some (#[Value.nilFunc])) := aalloc_eq' Try.zero41
theorem Try.zero42 : zeroCellsOf Try.prog 42 = some (#[Value.nilFunc]) := by kernel_rfl
theorem Try.alloc42 {h : AH} : aalloc Try.prog h 42 = mkAlloc h (some (#[Value.nilFunc])) := aalloc_eq' Try.zero42
theorem Try.zero43 : zeroCellsOf Try.prog 43 = some (#[Value.nilFunc]) := by kernel_rfl
theorem Try.alloc43 {h : AH} : aalloc Try.prog h 43 = mkAlloc h (some (#[Value.nilFunc])) := aalloc_eq' Try.zero43
theorem Try.zero44 : zeroCellsOf Try.prog 44 = some (#[Value.slice none 0 0]) := by kernel_rfl
theorem Try.alloc44 {h : AH} : aalloc Try.prog h 44 = mkAlloc h (some (#[Value.slice none 0 0])) := aalloc_eq' Try.zero44
theorem Try.zero45 : zeroCellsOf Try.prog 45 = some (#[Value.nilFunc]) := by kernel_rfl
theorem Try.alloc45 {h : AH} : aalloc Try.prog h 45 = mkAlloc h (some (#[Value.nilFunc])) := aalloc_eq' Try.zero45
theorem Try.zero46 : zeroCellsOf Try.prog 46 = some (#[Value.nilFunc]) := by kernel_rfl
theorem Try.alloc46 {h : AH} : aalloc Try.prog h 46 = mkAlloc h (some (#[Value.nilFunc])) := aalloc_eq' Try.zero46
theorem Try.zero47 : zeroCellsOf Try.prog 47 = some (#[Value.nilFunc]) := by kernel_rfl
theorem Try.alloc47 {h : AH} : aalloc Try.prog h 47 = mkAlloc h (some (#[Value.nilFunc])) := aalloc_eq' Try.zero47
theorem Try.zero48 : zeroCellsOf Try.prog 48 = some (#[Value.int IntKind.u64 (0)]) := by kernel_rfl
theorem Try.alloc48 {h : AH} : aalloc Try.prog h 48 = mkAlloc h (some (#[Value.int IntKind.u64 (0)])) := aalloc_eq' Try.zero48
theorem Try.zero49 : zeroCellsOf Try.prog 49 = some (#[Value.nilFunc]) := by kernel_rfl
theorem Try.alloc49 {h : AH} : aalloc Try.prog h 49 = mkAlloc h (some (#[Value.nilFunc])) := aalloc_eq' Try.zero49
theorem Try.zero50 : zeroCellsOf Try.prog 50 = some (#[Value.nilFunc]) := by kernel_rfl
theorem Try.alloc50 {h : AH} : aalloc Try.prog h 50 = mkAlloc h (some (#[Value.nilFunc])) := aalloc_eq' Try.zero50
theorem Try.zero51 : zeroCellsOf Try.prog 51 = some (#[Value.pointer none, Value.pointer none, Value.pointer none, Value.string { data := { toList := [] } }]) := by kernel_rfl
theorem Try.alloc51 {h : AH} : aalloc Try.prog h 51 = mkAlloc h (some (#[Value.pointer none, Value.pointer none, Value.pointer none, Value.string { data := { toList := [] } }])) := aalloc_eq' Try.zero51
theorem Try.zero52 : zeroCellsOf Try.prog 52 = some (#[Value.pointer none, Value.pointer none, Value.pointer none, Value.string { data := { toList := [] } }]) := by kernel_rfl
theorem Try.alloc52 {h : AH} : aalloc Try.prog h 52 = mkAlloc h (some (#[Value.pointer none, Value.pointer none, Value.pointer none, Value.string { data := { toList := [] } }])) := aalloc_eq' Try.zero52
theorem Try.zero56 : zeroCellsOf Try.prog 56 = some (#[Value.nilFunc]) := by kernel_rfl
theorem Try.alloc56 {h : AH} : aalloc Try.prog h 56 = mkAlloc h (some (#[Value.nilFunc])) := aalloc_eq' Try.zero56
theorem Try.zero57 : zeroCellsOf Try.prog 57 = some (#[Value.int IntKind.u32 (0)]) := by kernel_rfl
theorem Try.alloc57 {h : AH} : aalloc Try.prog h 57 = mkAlloc h (some (#[Value.int IntKind.u32 (0)])) := aalloc_eq' Try.zero57
theorem Try.zero58 : zeroCellsOf Try.prog 58 = some (#[Value.int IntKind.u8 (0)]) := by kernel_rfl
theorem Try.alloc58 {h : AH} : aalloc Try.prog h 58 = mkAlloc h (some (#[Value.int IntKind.u8 (0)])) := aalloc_eq' Try.zero58
theorem Try.zero59 : zeroCellsOf Try.prog 59 = some (#[Value.int IntKind.u8 (0)]) := by kernel_rfl
theorem Try.alloc59 {h : AH} : aalloc Try.prog h 59 = mkAlloc h (some (#[Value.int IntKind.u8 (0)])) := aalloc_eq' Try.zero59
theorem Try.zero60 : zeroCellsOf Try.prog 60 = some (#[Value.nilFunc]) := by kernel_rfl
theorem Try.alloc60 {h : AH} : aalloc Try.prog h 60 = mkAlloc h (some (#[Value.nilFunc])) := aalloc_eq' Try.zero60
theorem Try.zero61 : zeroCellsOf Try.prog 61 = some (#[Value.pointer none]) := by kernel_rfl
theorem Try.alloc61 {h : AH} : aalloc Try.prog h 61 = mkAlloc h (some (#[Value.pointer none])) := aalloc_eq' Try.zero61
theorem Try.zero62 : zeroCellsOf Try.prog 62 = some (#[Value.int IntKind.i32 (0)]) := by kernel_rfl
theorem Try.alloc62 {h : AH} : aalloc Try.prog h 62 = mkAlloc h (some (#[Value.int IntKind.i32 (0)])) := aalloc_eq' Try.zero62
theorem Try.zero63 : zeroCellsOf Try.prog 63 = some (#[Value.int IntKind.i32 (0)]) := by kernel_rfl
theorem Try.alloc63 {h : AH} : aalloc Try.prog h 63 = mkAlloc h (some (#[Value.int IntKind.i32 (0)])) := aalloc_eq' Try.zero63
theorem Try.zero64 : zeroCellsOf Try.prog 64 = some (#[Value.int IntKind.u64 (0), Value.int IntKind.u64 (0), Value.int IntKind.u32 (0), Value.int IntKind.u8 (0), Value.int IntKind.u8 (0), Value.int IntKind.u8 (0), Value.int IntKind.u8 (0), Value.nilFunc, Value.pointer none, Value.int IntKind.i32 (0), Value.int IntKind.i32 (0)]) := by kernel_rfl
theorem Try.alloc64 {h : AH} : aalloc Try.prog h 64 = mkAlloc h (some (#[Value.int IntKind.u64 (0), Value.int IntKind.u64 (0), Value.int IntKind.u32 (0), Value.int IntKind.u8 (0), Value.int IntKind.u8 (0), Value.int IntKind.u8 (0), Value.int IntKind.u8 (0), Value.nilFunc, Value.pointer none, Value.int IntKind.i32 (0), Value.int IntKind.i32 (0)])) := aalloc_eq' Try.zero64
theorem Try.zero65 : zeroCellsOf Try.prog 65 = some (#[Value.int IntKind.u64 (0), Value.int IntKind.u64 (0), Value.int IntKind.u32 (0), Value.int IntKind.u8 (0), Value.int IntKind.u8 (0), Value.int IntKind.u8 (0), Value.int IntKind.u8 (0), Value.nilFunc, Value.pointer none, Value.int IntKind.i32 (0), Value.int IntKind.i32 (0)]) := by kernel_rfl
theorem Try.alloc65 {h : AH} : aalloc Try.prog h 65 = mkAlloc h (some (#[Value.int IntKind.u64 (0), Value.int IntKind.u64 (0), Value.int IntKind.u32 (0), Value.int IntKind.u8 (0), Value.int IntKind.u8 (0), Value.int IntKind.u8 (0), Value.int IntKind.u8 (0), Value.nilFunc, Value.pointer none, Value.int IntKind.i32 (0), Value.int IntKind.i32 (0)])) := aalloc_eq' Try.zero65
theorem Try.zero66 : zeroCellsOf Try.prog 66 = some (#[Value.pointer none]) := by kernel_rfl
theorem Try.alloc66 {h : AH} : aalloc Try.prog h 66 = mkAlloc h (some (#[Value.pointer none])) := aalloc_eq' Try.zero66
theorem Try.plc7 : plc Try.prog 7 = some [(0, 1), (1, 1), (2, 1), (3, 1)] := by kernel_rfl
theorem Try.build7 {ps : List (Nat × Value)} : abuild Try.prog 7 ps = mkBuild ps (some (#[Value.int IntKind.i64 (0), Value.int IntKind.i64 (0), Value.bool false, Value.int IntKind.u8 (0)])) (some [(0, 1), (1, 1), (2, 1), (3, 1)]) := abuild_eq' Try.zero7 Try.plc7
theorem Try.plc8 : plc Try.prog 8 = some [(0, 1), (1, 1), (2, 1), (3, 1)] := by kernel_rfl
theorem Try.build8 {ps : List (Nat × Value)} : abuild Try.prog 8 ps = mkBuild ps (some (#[Value.int IntKind.i64 (0), Value.int IntKind.i64 (0), Value.bool false, Value.int IntKind.u8 (0)])) (some [(0, 1), (1, 1), (2, 1), (3, 1)]) := abuild_eq' Try.zero8 Try.plc8
theorem Try.plc13 : plc Try.prog 13 = some [(0, 1), (1, 1)] := by kernel_rfl
theorem Try.build13 {ps : List (Nat × Value)} : abuild Try.prog 13 ps = mkBuild ps (some (#[Value.string { data := { toList := [] } }, Value.int IntKind.u64 (0)])) (some [(0, 1), (1, 1)]) := abuild_eq' Try.zero13 Try.plc13
theorem Try.plc14 : plc Try.prog 14 = some [(0, 1), (1, 1)] := by kernel_rfl
theorem Try.build14 {ps : List (Nat × Value)} : abuild Try.prog 14 ps = mkBuild ps (some (#[Value.string { data := { toList := [] } }, Value.int IntKind.u64 (0)])) (some [(0, 1), (1, 1)]) := abuild_eq' Try.zero14 Try.plc14
theorem Try.plc18 : plc Try.prog 18 = some [(0, 1)] := by kernel_rfl
theorem Try.build18 {ps : List (Nat × Value)} : abuild Try.prog 18 ps = mkBuild ps (some (#[Value.pointer none])) (some [(0, 1)]) := abuild_eq' Try.zero18 Try.plc18
theorem Try.plc19 : plc Try.prog 19 = some [(0, 1)] := by kernel_rfl
theorem Try.build19 {ps : List (Nat × Value)} : abuild Try.prog 19 ps = mkBuild ps (some (#[Value.pointer none])) (some [(0, 1)]) := abuild_eq' Try.zero19 Try.plc19
theorem Try.plc29 : plc Try.prog 29 = some [(0, 20), (20, 1), (21, 1)] := by kernel_rfl
theorem Try.build29 {ps : List (Nat × Value)} : abuild Try.prog 29 ps = mkBuild ps (some ((Array.replicate 20 (Value.int IntKind.u8 (0))) ++ (#[Value.int IntKind.u64 (0), Value.int IntKind.u64 (0)]))) (some [(0, 20), (20, 1), (21, 1)]) := abuild_eq' Try.zero29 Try.plc29
theorem Try.plc30 : plc Try.prog 30 = some [(0, 20), (20, 1), (21, 1)] := by kernel_rfl
theorem Try.build30 {ps : List (Nat × Value)} : abuild Try.prog 30 ps = mkBuild ps (some ((Array.replicate 20 (Value.int IntKind.u8 (0))) ++ (#[Value.int IntKind.u64 (0), Value.int IntKind.u64 (0)]))) (some [(0, 20), (20, 1), (21, 1)]) := abuild_eq' Try.zero30 Try.plc30
theorem Try.plc51 : plc Try.prog 51 = some [(0, 1), (1, 1), (2, 1), (3, 1)] := by kernel_rfl
theorem Try.build51 {ps : List (Nat × Value)} : abuild Try.prog 51 ps = mkBuild ps (some (#[Value.pointer none, Value.pointer none, Value.pointer none, Value.string { data := { toList := [] } }])) (some [(0, 1), (1, 1), (2, 1), (3, 1)]) := abuild_eq' Try.zero51 Try.plc51
theorem Try.plc52 : plc Try.prog 52 = some [(0, 1), (1, 1), (2, 1), (3, 1)] := by kernel_rfl
theorem Try.build52 {ps : List (Nat × Value)} : abuild Try.prog 52 ps = mkBuild ps (some (#[Value.pointer none, Value.pointer none, Value.pointer none, Value.string { data := { toList := [] } }])) (some [(0, 1), (1, 1), (2, 1), (3, 1)]) := abuild_eq' Try.zero52 Try.plc52
theorem Try.plc54 : plc Try.prog 54 = some [(0, 0)] := by kernel_rfl
theorem Try.plc55 : plc Try.prog 55 = some [(0, 0)] := by kernel_rfl
theorem Try.plc64 : plc Try.prog 64 = some [(0, 1), (1, 1), (2, 1), (3, 1), (4, 1), (5, 1), (6, 1), (7, 1), (8, 1), (9, 1), (10, 1)] := by kernel_rfl
theorem Try.build64 {ps : List (Nat × Value)} : abuild Try.prog 64 ps = mkBuild ps (some (#[Value.int IntKind.u64 (0), Value.int IntKind.u64 (0), Value.int IntKind.u32 (0), Value.int IntKind.u8 (0), Value.int IntKind.u8 (0), Value.int IntKind.u8 (0), Value.int IntKind.u8 (0), Value.nilFunc, Value.pointer none, Value.int IntKind.i32 (0), Value.int IntKind.i32 (0)])) (some [(0, 1), (1, 1), (2, 1), (3, 1), (4, 1), (5, 1), (6, 1), (7, 1), (8, 1), (9, 1), (10, 1)]) := abuild_eq' Try.zero64 Try.plc64
theorem Try.plc65 : plc Try.prog 65 = some [(0, 1), (1, 1), (2, 1), (3, 1), (4, 1), (5, 1), (6, 1), (7, 1), (8, 1), (9, 1), (10, 1)] := by kernel_rfl
theorem Try.build65 {ps : List (Nat × Value)} : abuild Try.prog 65 ps = mkBuild ps (some (#[Value.int IntKind.u64 (0), Value.int IntKind.u64 (0), Value.int IntKind.u32 (0), Value.int IntKind.u8 (0), Value.int IntKind.u8 (0), Value.int IntKind.u8 (0), Value.int IntKind.u8 (0), Value.nilFunc, Value.pointer none, Value.int IntKind.i32 (0), Value.int IntKind.i32 (0)])) (some [(0, 1), (1, 1), (2, 1), (3, 1), (4, 1), (5, 1), (6, 1), (7, 1), (8, 1), (9, 1), (10, 1)]) := abuild_eq' Try.zero65 Try.plc65
theorem Try.arr23 : arr Try.prog 23 = some (20, false, 1) := by kernel_rfl
theorem Try.index23 {c : Array Value} {k : IntKind} {i : Int} : aindex Try.prog 23 (.agg c) (.int k i) = mkIndex c i (some (20, false, 1)) := aindex_eq' Try.arr23
theorem Try.indexA23 {b o : Nat} {k : IntKind} {i : Int} : aindexAddr Try.prog 23 (.pointer (some ⟨b, o, none⟩)) (.int k i) = mkIndexA b o i (some (20, false, 1)) := aindexA_eq' Try.arr23
theorem Try.indexF23 {c : Array Value} {n : Nat} {k : IntKind} {i : Int} : aindexAddr Try.prog 23 (fp c n) (.int k i) = mkIndexF c n i (some (20, false, 1)) := aindexAddr_fp Try.arr23
theorem Try.sliceF23 {h : AH} {c : Array Value} {n : Nat} {lo hi : Option Value} : aslice Try.prog h 23 (fp c n) lo hi = mkSliceF c n lo hi (some (20, false, 1)) := aslice_fp Try.arr23
theorem Try.arrptrZ23 {c : Array Value} {n : Nat} : aarrayPtr Try.prog 23 (fz c n) = if 20 ≤ n ∧ 0 < n then some (fp c 0) else none := aarr_fz Try.arr23
theorem Try.lenA23 {h : AH} {x : Value} : alen Try.prog h 23 x = some (.int .i64 20) := alenA_eq' Try.arr23
theorem Try.sliceA23 {h : AH} {b o : Nat} {lo hi : Option Value} : aslice Try.prog h 23 (.pointer (some ⟨b, o, none⟩)) lo hi = mkSliceA b o lo hi (some (20, false, 1)) := asliceA_eq' Try.arr23
theorem Try.arrptr23 {b o l c : Nat} : aarrayPtr Try.prog 23 (.slice (some ⟨b, o, none⟩) l c) = mkArrPtr b o l (some (20, false, 1)) := aarr_eq' Try.arr23
theorem Try.buildA23 {ps : List (Nat × Value)} : abuild Try.prog 23 ps = mkBuildA ps (some ((Array.replicate 20 (Value.int IntKind.u8 (0))))) (some (20, false, 1)) := abuildA_eq' Try.zero23 Try.arr23
theorem Try.arr24 : arr Try.prog 24 = some (20, false, 1) := by kernel_rfl
theorem Try.index24 {c : Array Value} {k : IntKind} {i : Int} : aindex Try.prog 24 (.agg c) (.int k i) = mkIndex c i (some (20, false, 1)) := aindex_eq' Try.arr24
theorem Try.indexA24 {b o : Nat} {k : IntKind} {i : Int} : aindexAddr Try.prog 24 (.pointer (some ⟨b, o, none⟩)) (.int k i) = mkIndexA b o i (some (20, false, 1)) := aindexA_eq' Try.arr24
theorem Try.indexF24 {c : Array Value} {n : Nat} {k : IntKind} {i : Int} : aindexAddr Try.prog 24 (fp c n) (.int k i) = mkIndexF c n i (some (20, false, 1)) := aindexAddr_fp Try.arr24
theorem Try.sliceF24 {h : AH} {c : Array Value} {n : Nat} {lo hi : Option Value} : aslice Try.prog h 24 (fp c n) lo hi = mkSliceF c n lo hi (some (20, false, 1)) := aslice_fp Try.arr24
theorem Try.arrptrZ24 {c : Array Value} {n : Nat} : aarrayPtr Try.prog 24 (fz c n) = if 20 ≤ n ∧ 0 < n then some (fp c 0) else none := aarr_fz Try.arr24
theorem Try.lenA24 {h : AH} {x : Value} : alen Try.prog h 24 x = some (.int .i64 20) := alenA_eq' Try.arr24
theorem Try.sliceA24 {h : AH} {b o : Nat} {lo hi : Option Value} : aslice Try.prog h 24 (.pointer (some ⟨b, o, none⟩)) lo hi = mkSliceA b o lo hi (some (20, false, 1)) := asliceA_eq' Try.arr24
theorem Try.arrptr24 {b o l c : Nat} : aarrayPtr Try.prog 24 (.slice (some ⟨b, o, none⟩) l c) = mkArrPtr b o l (some (20, false, 1)) := aarr_eq' Try.arr24
theorem Try.buildA24 {ps : List (Nat × Value)} : abuild Try.prog 24 ps = mkBuildA ps (some ((Array.replicate 20 (Value.int IntKind.u8 (0))))) (some (20, false, 1)) := abuildA_eq' Try.zero24 Try.arr24
theorem Try.arr53 : arr Try.prog 53 = some (0, false, 1) := by kernel_rfl
theorem Try.index53 {c : Array Value} {k : IntKind} {i : Int} : aindex Try.prog 53 (.agg c) (.int k i) = mkIndex c i (some (0, false, 1)) := aindex_eq' Try.arr53
theorem Try.indexA53 {b o : Nat} {k : IntKind} {i : Int} : aindexAddr Try.prog 53 (.pointer (some ⟨b, o, none⟩)) (.int k i) = mkIndexA b o i (some (0, false, 1)) := aindexA_eq' Try.arr53
theorem Try.indexF53 {c : Array Value} {n : Nat} {k : IntKind} {i : Int} : aindexAddr Try.prog 53 (fp c n) (.int k i) = mkIndexF c n i (some (0, false, 1)) := aindexAddr_fp Try.arr53
theorem Try.sliceF53 {h : AH} {c : Array Value} {n : Nat} {lo hi : Option Value} : aslice Try.prog h 53 (fp c n) lo hi = mkSliceF c n lo hi (some (0, false, 1)) := aslice_fp Try.arr53
theorem Try.arrptrZ53 {c : Array Value} {n : Nat} : aarrayPtr Try.prog 53 (fz c n) = if 0 ≤ n ∧ 0 < n then some (fp c 0) else none := aarr_fz Try.arr53
theorem Try.lenA53 {h : AH} {x : Value} : alen Try.prog h 53 x = some (.int .i64 0) := alenA_eq' Try.arr53
theorem Try.sliceA53 {h : AH} {b o : Nat} {lo hi : Option Value} : aslice Try.prog h 53 (.pointer (some ⟨b, o, none⟩)) lo hi = mkSliceA b o lo hi (some (0, false, 1)) := asliceA_eq' Try.arr53
theorem Try.arrptr53 {b o l c : Nat} : aarrayPtr Try.prog 53 (.slice (some ⟨b, o, none⟩) l c) = mkArrPtr b o l (some (0, false, 1)) := aarr_eq' Try.arr53
theorem Try.slc22 : slc Try.prog 22 = some (false, 1, 1) := by kernel_rfl
theorem Try.indexS22 {b o l c : Nat} {k : IntKind} {i : Int} : aindexAddr Try.prog 22 (.slice (some ⟨b, o, none⟩) l c) (.int k i) = mkIndexS b o l i (some (false, 1, 1)) := aindexS_eq' Try.slc22
theorem Try.indexZ22 {c : Array Value} {n : Nat} {k : IntKind} {i : Int} : aindexAddr Try.prog 22 (fz c n) (.int k i) = mkIndexZ c n i (some (false, 1, 1)) := aindexAddr_fz Try.slc22
theorem Try.indexV22 {α : Type} {enc : α → List Value} {s : Sl α} {k : IntKind} {i : Int} : aindexAddr Try.prog 22 (slV enc s) (.int k i) = mkIndexZ (flatV enc s.l) s.l.length i (some (false, 1, 1)) := aindex_slV Try.slc22
theorem Try.lenZ22 {h : AH} {c : Array Value} {n : Nat} : alen Try.prog h 22 (fz c n) = some (.int .i64 n) := alen_fz Try.slc22
theorem Try.lenV22 {h : AH} {α : Type} {enc : α → List Value} {s : Sl α} : alen Try.prog h 22 (slV enc s) = some (.int .i64 (s.l.length : Nat)) := alen_slV Try.slc22
theorem Try.lenO22 {h : AH} {α : Type} {l : List α} {b : Nat} : alen Try.prog h 22 (outV b l) = some (.int .i64 (l.length : Nat)) := alen_outV Try.slc22
theorem Try.indexO22 {α : Type} {l : List α} {b : Nat} {k : IntKind} {i : Int} : aindexAddr Try.prog 22 (outV b l) (.int k i) = if 0 ≤ i ∧ i < l.length then some (.pointer (some ⟨b, i.toNat * 1, none⟩)) else none := aindex_outV Try.slc22
theorem Try.sliceV22 {h : AH} {α : Type} {enc : α → List Value} {s : Sl α} {lo hi : Option Value} (hm : ∀ x, (enc x).length = 1) : aslice Try.prog h 22 (slV enc s) lo hi = (abounds s.l.length s.l.length lo hi).map fun p => slV enc (s.piece p.1 p.2) := aslice_slV Try.slc22 hm
theorem Try.sliceZ22 {h : AH} {c : Array Value} {n : Nat} {lo hi : Option Value} : aslice Try.prog h 22 (fz c n) lo hi = mkSliceZ c n lo hi (some (false, 1, 1)) := aslice_fz Try.slc22
theorem Try.len22 {h : AH} {a : Option Addr} {l c : Nat} : alen Try.prog h 22 (.slice a l c) = some (.int .i64 l) := alen_eq' Try.slc22
theorem Try.sliceS22 {h : AH} {b o l c : Nat} {lo hi : Option Value} : aslice Try.prog h 22 (.slice (some ⟨b, o, none⟩) l c) lo hi = mkSliceS b o l c lo hi (some (false, 1, 1)) h[b]? := asliceS_eq' Try.slc22
theorem Try.sliceN22 {h : AH} {lo hi : Option Value} : aslice Try.prog h 22 (.slice none 0 0) lo hi = (abounds 0 0 lo hi).map fun _ => .slice none 0 0 := asliceN_eq' Try.slc22
theorem Try.slz22 : slz Try.prog 22 = some (#[Value.bool false]) := by kernel_rfl
theorem Try.buildS22 {h : AH} {n : Nat} {ps : List (Nat × Value)} : abuildSlice Try.prog h 22 n ps = mkBuildS h n ps (some (#[Value.bool false])) := abuildS_eq' Try.slz22
theorem Try.make22 {h : AH} {i n : Int} : amakeSlice Try.prog h 22 (.int .i64 i) (.int .i64 n) = mkMake h i n (some (false, 1, 1)) (some (#[Value.bool false])) := amake_eq' Try.slc22 Try.slz22
theorem Try.append22 {h : AH} {u : TypeId} {s x : Value} (hn : nint Try.prog u = true) : aappend Try.prog h 22 u s x = orT (mkApp h s (some (false, 1, 1)) (mkSrc h x (some (false, 1, 1)) true)) (aappendT Try.prog h 22 u s x) := aappend_eq' Try.slc22 Try.slz22 hn
theorem Try.slc26 : slc Try.prog 26 = some (true, 22, 40) := by kernel_rfl
theorem Try.indexS26 {b o l c : Nat} {k : IntKind} {i : Int} : aindexAddr Try.prog 26 (.slice (some ⟨b, o, none⟩) l c) (.int k i) = mkIndexS b o l i (some (true, 22, 40)) := aindexS_eq' Try.slc26
theorem Try.indexZ26 {c : Array Value} {n : Nat} {k : IntKind} {i : Int} : aindexAddr Try.prog 26 (fz c n) (.int k i) = mkIndexZ c n i (some (true, 22, 40)) := aindexAddr_fz Try.slc26
theorem Try.indexV26 {α : Type} {enc : α → List Value} {s : Sl α} {k : IntKind} {i : Int} : aindexAddr Try.prog 26 (slV enc s) (.int k i) = mkIndexZ (flatV enc s.l) s.l.length i (some (true, 22, 40)) := aindex_slV Try.slc26
theorem Try.lenZ26 {h : AH} {c : Array Value} {n : Nat} : alen Try.prog h 26 (fz c n) = some (.int .i64 n) := alen_fz Try.slc26
theorem Try.lenV26 {h : AH} {α : Type} {enc : α → List Value} {s : Sl α} : alen Try.prog h 26 (slV enc s) = some (.int .i64 (s.l.length : Nat)) := alen_slV Try.slc26
theorem Try.lenO26 {h : AH} {α : Type} {l : List α} {b : Nat} : alen Try.prog h 26 (outV b l) = some (.int .i64 (l.length : Nat)) := alen_outV Try.slc26
theorem Try.indexO26 {α : Type} {l : List α} {b : Nat} {k : IntKind} {i : Int} : aindexAddr Try.prog 26 (outV b l) (.int k i) = if 0 ≤ i ∧ i < l.length then some (.pointer (some ⟨b, i.toNat * 22, none⟩)) else none := aindex_outV Try.slc26
theorem Try.sliceV26 {h : AH} {α : Type} {enc : α → List Value} {s : Sl α} {lo hi : Option Value} (hm : ∀ x, (enc x).length = 22) : aslice Try.prog h 26 (slV enc s) lo hi = (abounds s.l.length s.l.length lo hi).map fun p => slV enc (s.piece p.1 p.2) := aslice_slV Try.slc26 hm
theorem Try.sliceZ26 {h : AH} {c : Array Value} {n : Nat} {lo hi : Option Value} : aslice Try.prog h 26 (fz c n) lo hi = mkSliceZ c n lo hi (some (true, 22, 40)) := aslice_fz Try.slc26
theorem Try.len26 {h : AH} {a : Option Addr} {l c : Nat} : alen Try.prog h 26 (.slice a l c) = some (.int .i64 l) := alen_eq' Try.slc26
theorem Try.sliceS26 {h : AH} {b o l c : Nat} {lo hi : Option Value} : aslice Try.prog h 26 (.slice (some ⟨b, o, none⟩) l c) lo hi = mkSliceS b o l c lo hi (some (true, 22, 40)) h[b]? := asliceS_eq' Try.slc26
theorem Try.sliceN26 {h : AH} {lo hi : Option Value} : aslice Try.prog h 26 (.slice none 0 0) lo hi = (abounds 0 0 lo hi).map fun _ => .slice none 0 0 := asliceN_eq' Try.slc26
theorem Try.slz26 : slz Try.prog 26 = some ((Array.replicate 20 (Value.int IntKind.u8 (0))) ++ (#[Value.int IntKind.u64 (0), Value.int IntKind.u64 (0)])) := by kernel_rfl
theorem Try.buildS26 {h : AH} {n : Nat} {ps : List (Nat × Value)} : abuildSlice Try.prog h 26 n ps = mkBuildS h n ps (some ((Array.replicate 20 (Value.int IntKind.u8 (0))) ++ (#[Value.int IntKind.u64 (0), Value.int IntKind.u64 (0)]))) := abuildS_eq' Try.slz26
theorem Try.make26 {h : AH} {i n : Int} : amakeSlice Try.prog h 26 (.int .i64 i) (.int .i64 n) = mkMake h i n (some (true, 22, 40)) (some ((Array.replicate 20 (Value.int IntKind.u8 (0))) ++ (#[Value.int IntKind.u64 (0), Value.int IntKind.u64 (0)]))) := amake_eq' Try.slc26 Try.slz26
theorem Try.append26 {h : AH} {u : TypeId} {s x : Value} (hn : nint Try.prog u = true) : aappend Try.prog h 26 u s x = orT (mkApp h s (some (true, 22, 40)) (mkSrc h x (some (true, 22, 40)) true)) (aappendT Try.prog h 26 u s x) := aappend_eq' Try.slc26 Try.slz26 hn
theorem Try.slc44 : slc Try.prog 44 = some (false, 1, 1) := by kernel_rfl
theorem Try.indexS44 {b o l c : Nat} {k : IntKind} {i : Int} : aindexAddr Try.prog 44 (.slice (some ⟨b, o, none⟩) l c) (.int k i) = mkIndexS b o l i (some (false, 1, 1)) := aindexS_eq' Try.slc44
theorem Try.indexZ44 {c : Array Value} {n : Nat} {k : IntKind} {i : Int} : aindexAddr Try.prog 44 (fz c n) (.int k i) = mkIndexZ c n i (some (false, 1, 1)) := aindexAddr_fz Try.slc44
theorem Try.indexV44 {α : Type} {enc : α → List Value} {s : Sl α} {k : IntKind} {i : Int} : aindexAddr Try.prog 44 (slV enc s) (.int k i) = mkIndexZ (flatV enc s.l) s.l.length i (some (false, 1, 1)) := aindex_slV Try.slc44
theorem Try.lenZ44 {h : AH} {c : Array Value} {n : Nat} : alen Try.prog h 44 (fz c n) = some (.int .i64 n) := alen_fz Try.slc44
theorem Try.lenV44 {h : AH} {α : Type} {enc : α → List Value} {s : Sl α} : alen Try.prog h 44 (slV enc s) = some (.int .i64 (s.l.length : Nat)) := alen_slV Try.slc44
theorem Try.lenO44 {h : AH} {α : Type} {l : List α} {b : Nat} : alen Try.prog h 44 (outV b l) = some (.int .i64 (l.length : Nat)) := alen_outV Try.slc44
theorem Try.indexO44 {α : Type} {l : List α} {b : Nat} {k : IntKind} {i : Int} : aindexAddr Try.prog 44 (outV b l) (.int k i) = if 0 ≤ i ∧ i < l.length then some (.pointer (some ⟨b, i.toNat * 1, none⟩)) else none := aindex_outV Try.slc44
theorem Try.sliceV44 {h : AH} {α : Type} {enc : α → List Value} {s : Sl α} {lo hi : Option Value} (hm : ∀ x, (enc x).length = 1) : aslice Try.prog h 44 (slV enc s) lo hi = (abounds s.l.length s.l.length lo hi).map fun p => slV enc (s.piece p.1 p.2) := aslice_slV Try.slc44 hm
theorem Try.sliceZ44 {h : AH} {c : Array Value} {n : Nat} {lo hi : Option Value} : aslice Try.prog h 44 (fz c n) lo hi = mkSliceZ c n lo hi (some (false, 1, 1)) := aslice_fz Try.slc44
theorem Try.len44 {h : AH} {a : Option Addr} {l c : Nat} : alen Try.prog h 44 (.slice a l c) = some (.int .i64 l) := alen_eq' Try.slc44
theorem Try.sliceS44 {h : AH} {b o l c : Nat} {lo hi : Option Value} : aslice Try.prog h 44 (.slice (some ⟨b, o, none⟩) l c) lo hi = mkSliceS b o l c lo hi (some (false, 1, 1)) h[b]? := asliceS_eq' Try.slc44
theorem Try.sliceN44 {h : AH} {lo hi : Option Value} : aslice Try.prog h 44 (.slice none 0 0) lo hi = (abounds 0 0 lo hi).map fun _ => .slice none 0 0 := asliceN_eq' Try.slc44
theorem Try.slz44 : slz Try.prog 44 = some (#[Value.int IntKind.u8 (0)]) := by kernel_rfl
theorem Try.buildS44 {h : AH} {n : Nat} {ps : List (Nat × Value)} : abuildSlice Try.prog h 44 n ps = mkBuildS h n ps (some (#[Value.int IntKind.u8 (0)])) := abuildS_eq' Try.slz44
theorem Try.make44 {h : AH} {i n : Int} : amakeSlice Try.prog h 44 (.int .i64 i) (.int .i64 n) = mkMake h i n (some (false, 1, 1)) (some (#[Value.int IntKind.u8 (0)])) := amake_eq' Try.slc44 Try.slz44
theorem Try.append44 {h : AH} {u : TypeId} {s x : Value} (hn : nint Try.prog u = true) : aappend Try.prog h 44 u s x = orT (mkApp h s (some (false, 1, 1)) (mkSrc h x (some (false, 1, 1)) true)) (aappendT Try.prog h 44 u s x) := aappend_eq' Try.slc44 Try.slz44 hn
theorem Try.intk2 : intk Try.prog 2 = some IntKind.i64 := by kernel_rfl
theorem Try.conv2 {h : AH} {u : TypeId} {k : IntKind} {n : Int} (hs : (tyc Try.prog u).isSome = true) : aconvert Try.prog h u 2 (.int k n) = some (.int IntKind.i64 (IntKind.i64.wrap n), h) := aconvI_eq' Try.intk2 hs
theorem Try.intk3 : intk Try.prog 3 = some IntKind.i64 := by kernel_rfl
theorem Try.conv3 {h : AH} {u : TypeId} {k : IntKind} {n : Int} (hs : (tyc Try.prog u).isSome = true) : aconvert Try.prog h u 3 (.int k n) = some (.int IntKind.i64 (IntKind.i64.wrap n), h) := aconvI_eq' Try.intk3 hs
theorem Try.intk5 : intk Try.prog 5 = some IntKind.u8 := by kernel_rfl
theorem Try.conv5 {h : AH} {u : TypeId} {k : IntKind} {n : Int} (hs : (tyc Try.prog u).isSome = true) : aconvert Try.prog h u 5 (.int k n) = some (.int IntKind.u8 (IntKind.u8.wrap n), h) := aconvI_eq' Try.intk5 hs
theorem Try.intk6 : intk Try.prog 6 = some IntKind.u8 := by kernel_rfl
theorem Try.conv6 {h : AH} {u : TypeId} {k : IntKind} {n : Int} (hs : (tyc Try.prog u).isSome = true) : aconvert Try.prog h u 6 (.int k n) = some (.int IntKind.u8 (IntKind.u8.wrap n), h) := aconvI_eq' Try.intk6 hs
theorem Try.intk12 : intk Try.prog 12 = some IntKind.u64 := by kernel_rfl
theorem Try.conv12 {h : AH} {u : TypeId} {k : IntKind} {n : Int} (hs : (tyc Try.prog u).isSome = true) : aconvert Try.prog h u 12 (.int k n) = some (.int IntKind.u64 (IntKind.u64.wrap n), h) := aconvI_eq' Try.intk12 hs
theorem Try.intk21 : intk Try.prog 21 = some IntKind.i32 := by kernel_rfl
theorem Try.conv21 {h : AH} {u : TypeId} {k : IntKind} {n : Int} (hs : (tyc Try.prog u).isSome = true) : aconvert Try.prog h u 21 (.int k n) = some (.int IntKind.i32 (IntKind.i32.wrap n), h) := aconvI_eq' Try.intk21 hs
theorem Try.intk27 : intk Try.prog 27 = some IntKind.u64 := by kernel_rfl
theorem Try.conv27 {h : AH} {u : TypeId} {k : IntKind} {n : Int} (hs : (tyc Try.prog u).isSome = true) : aconvert Try.prog h u 27 (.int k n) = some (.int IntKind.u64 (IntKind.u64.wrap n), h) := aconvI_eq' Try.intk27 hs
theorem Try.intk48 : intk Try.prog 48 = some IntKind.u64 := by kernel_rfl
theorem Try.conv48 {h : AH} {u : TypeId} {k : IntKind} {n : Int} (hs : (tyc Try.prog u).isSome = true) : aconvert Try.prog h u 48 (.int k n) = some (.int IntKind.u64 (IntKind.u64.wrap n), h) := aconvI_eq' Try.intk48 hs
theorem Try.intk57 : intk Try.prog 57 = some IntKind.u32 := by kernel_rfl
theorem Try.conv57 {h : AH} {u : TypeId} {k : IntKind} {n : Int} (hs : (tyc Try.prog u).isSome = true) : aconvert Try.prog h u 57 (.int k n) = some (.int IntKind.u32 (IntKind.u32.wrap n), h) := aconvI_eq' Try.intk57 hs
theorem Try.intk58 : intk Try.prog 58 = some IntKind.u8 := by kernel_rfl
theorem Try.conv58 {h : AH} {u : TypeId} {k : IntKind} {n : Int} (hs : (tyc Try.prog u).isSome = true) : aconvert Try.prog h u 58 (.int k n) = some (.int IntKind.u8 (IntKind.u8.wrap n), h) := aconvI_eq' Try.intk58 hs
theorem Try.intk59 : intk Try.prog 59 = some IntKind.u8 := by kernel_rfl
theorem Try.conv59 {h : AH} {u : TypeId} {k : IntKind} {n : Int} (hs : (tyc Try.prog u).isSome = true) : aconvert Try.prog h u 59 (.int k n) = some (.int IntKind.u8 (IntKind.u8.wrap n), h) := aconvI_eq' Try.intk59 hs
theorem Try.intk62 : intk Try.prog 62 = some IntKind.i32 := by kernel_rfl
theorem Try.conv62 {h : AH} {u : TypeId} {k : IntKind} {n : Int} (hs : (tyc Try.prog u).isSome = true) : aconvert Try.prog h u 62 (.int k n) = some (.int IntKind.i32 (IntKind.i32.wrap n), h) := aconvI_eq' Try.intk62 hs
theorem Try.intk63 : intk Try.prog 63 = some IntKind.i32 := by kernel_rfl
theorem Try.conv63 {h : AH} {u : TypeId} {k : IntKind} {n : Int} (hs : (tyc Try.prog u).isSome = true) : aconvert Try.prog h u 63 (.int k n) = some (.int IntKind.i32 (IntKind.i32.wrap n), h) := aconvI_eq' Try.intk63 hs
theorem Try.nint9 : nint Try.prog 9 = true := by kernel_rfl
theorem Try.nint10 : nint Try.prog 10 = true := by kernel_rfl
theorem Try.nint11 : nint Try.prog 11 = true := by kernel_rfl
theorem Try.nint22 : nint Try.prog 22 = true := by kernel_rfl
theorem Try.nint26 : nint Try.prog 26 = true := by kernel_rfl
theorem Try.nint44 : nint Try.prog 44 = true := by kernel_rfl
theorem Try.isStr9 : isStr Try.prog 9 = true := by kernel_rfl
theorem Try.lenT9 {h : AH} {s : ByteArray} : alen Try.prog h 9 (.string s) = some (.int .i64 s.size) := alenT_eq' Try.isStr9
theorem Try.sliceT9 {h : AH} {s : ByteArray} {lo hi : Option Value} : aslice Try.prog h 9 (.string s) lo hi = mkSliceT s lo hi true := asliceT_eq' Try.isStr9
theorem Try.isStr10 : isStr Try.prog 10 = true := by kernel_rfl
theorem Try.lenT10 {h : AH} {s : ByteArray} : alen Try.prog h 10 (.string s) = some (.int .i64 s.size) := alenT_eq' Try.isStr10
theorem Try.sliceT10 {h : AH} {s : ByteArray} {lo hi : Option Value} : aslice Try.prog h 10 (.string s) lo hi = mkSliceT s lo hi true := asliceT_eq' Try.isStr10
theorem Try.isStr11 : isStr Try.prog 11 = true := by kernel_rfl
theorem Try.lenT11 {h : AH} {s : ByteArray} : alen Try.prog h 11 (.string s) = some (.int .i64 s.size) := alenT_eq' Try.isStr11
theorem Try.sliceT11 {h : AH} {s : ByteArray} {lo hi : Option Value} : aslice Try.prog h 11 (.string s) lo hi = mkSliceT s lo hi true := asliceT_eq' Try.isStr11
theorem Try.isBool4 : isBool Try.prog 4 = true := by kernel_rfl
theorem Try.eqlB4 {x y : Operand} {a b : Bool} : abinOp Try.prog .eql 4 x y (.bool a) (.bool b) = some (.bool (a == b)) := abin_eqlB (isBool_u Try.isBool4) a b
theorem Try.neqB4 {x y : Operand} {a b : Bool} : abinOp Try.prog .neq 4 x y (.bool a) (.bool b) = some (.bool (!(a == b))) := abin_neqB (isBool_u Try.isBool4) a b
theorem Try.rowK23 : rowK Try.prog 23 = some (20, IntKind.u8) := by kernel_rfl
theorem Try.eqlR23 {x y : Operand} {a b : Addr20} : abinOp Try.prog .eql 23 x y (.agg (encAddr a).toArray) (.agg (encAddr b).toArray) = some (.bool (decide (a = b))) := abin_eqlAddr Try.rowK23 a b
theorem Try.neqR23 {x y : Operand} {a b : Addr20} : abinOp Try.prog .neq 23 x y (.agg (encAddr a).toArray) (.agg (encAddr b).toArray) = some (.bool (!decide (a = b))) := abin_neqAddr Try.rowK23 a b
theorem Try.rowK24 : rowK Try.prog 24 = some (20, IntKind.u8) := by kernel_rfl
theorem Try.eqlR24 {x y : Operand} {a b : Addr20} : abinOp Try.prog .eql 24 x y (.agg (encAddr a).toArray) (.agg (encAddr b).toArray) = some (.bool (decide (a = b))) := abin_eqlAddr Try.rowK24 a b
theorem Try.neqR24 {x y : Operand} {a b : Addr20} : abinOp Try.prog .neq 24 x y (.agg (encAddr a).toArray) (.agg (encAddr b).toArray) = some (.bool (!decide (a = b))) := abin_neqAddr Try.rowK24 a b
theorem Try.hb2 : hasBody Try.prog 2 = true := by kernel_rfl
theorem Try.hb3 : hasBody Try.prog 3 = true := by kernel_rfl
theorem Try.hb4 : hasBody Try.prog 4 = true := by kernel_rfl
theorem Try.hb5 : hasBody Try.prog 5 = true := by kernel_rfl
theorem Try.hb6 : hasBody Try.prog 6 = true := by kernel_rfl
theorem Try.hb7 : hasBody Try.prog 7 = true := by kernel_rfl
theorem Try.hb8 : hasBody Try.prog 8 = true := by kernel_rfl
theorem Try.hb9 : hasBody Try.prog 9 = true := by kernel_rfl
theorem Try.hb10 : hasBody Try.prog 10 = true := by kernel_rfl
theorem Try.hb11 : hasBody Try.prog 11 = true := by kernel_rfl
theorem Try.hb12 : hasBody Try.prog 12 = true := by kernel_rfl
theorem Try.hb13 : hasBody Try.prog 13 = true := by kernel_rfl
theorem Try.hb14 : hasBody Try.prog 14 = true := by kernel_rfl
theorem Try.hb15 : hasBody Try.prog 15 = true := by kernel_rfl
theorem Try.hb16 : hasBody Try.prog 16 = true := by kernel_rfl
theorem Try.hb17 : hasBody Try.prog 17 = true := by kernel_rfl
theorem Try.hb18 : hasBody Try.prog 18 = true := by kernel_rfl
theorem Try.hb19 : hasBody Try.prog 19 = true := by kernel_rfl
theorem Try.hb20 : hasBody Try.prog 20 = true := by kernel_rfl
theorem Try.hb22 : hasBody Try.prog 22 = true := by kernel_rfl
theorem Try.hb24 : hasBody Try.prog 24 = true := by kernel_rfl
theorem Try.hb25 : hasBody Try.prog 25 = true := by kernel_rfl
theorem Try.cmp23 {h : AH} {x y : Value} : acall Try.prog h (.func (.func 23) #[] #[]) #[x, y] = aval h (acompare h x y) := acall_compare (by kernel_rfl) (by kernel_rfl)
attribute [go_sem] Try.load0 Try.loadF0 Try.store0 Try.some0 Try.load1 Try.loadF1 Try.store1 Try.some1 Try.load2 Try.loadF2 Try.store2 Try.some2 Try.load3 Try.loadF3 Try.store3 Try.some3 Try.load4 Try.loadF4 Try.store4 Try.some4 Try.load5 Try.loadF5 Try.store5 Try.some5 Try.load6 Try.loadF6 Try.store6 Try.some6 Try.load7 Try.loadF7 Try.store7 Try.some7 Try.load8 Try.loadF8 Try.store8 Try.some8 Try.load9 Try.loadF9 Try.store9 Try.some9
attribute [go_sem] Try.load10 Try.loadF10 Try.store10 Try.some10 Try.load11 Try.loadF11 Try.store11 Try.some11 Try.load12 Try.loadF12 Try.store12 Try.some12 Try.load13 Try.loadF13 Try.store13 Try.some13 Try.load14 Try.loadF14 Try.store14 Try.some14 Try.load15 Try.loadF15 Try.store15 Try.some15 Try.load16 Try.loadF16 Try.store16 Try.some16 Try.load17 Try.loadF17 Try.store17 Try.some17 Try.load18 Try.loadF18 Try.store18 Try.some18 Try.load19 Try.loadF19 Try.store19 Try.some19
attribute [go_sem] Try.load20 Try.loadF20 Try.store20 Try.some20 Try.load21 Try.loadF21 Try.store21 Try.some21 Try.load22 Try.loadF22 Try.store22 Try.some22 Try.load23 Try.loadF23 Try.store23 Try.some23 Try.load24 Try.loadF24 Try.store24 Try.some24 Try.load25 Try.loadF25 Try.store25 Try.some25 Try.load26 Try.loadF26 Try.store26 Try.some26 Try.load27 Try.loadF27 Try.store27 Try.some27 Try.load28 Try.loadF28 Try.store28 Try.some28 Try.load29 Try.loadF29 Try.store29 Try.some29
attribute [go_sem] Try.load30 Try.loadF30 Try.store30 Try.some30 Try.load31 Try.loadF31 Try.store31 Try.some31 Try.load32 Try.loadF32 Try.store32 Try.some32 Try.load33 Try.loadF33 Try.store33 Try.some33 Try.load34 Try.loadF34 Try.store34 Try.some34 Try.load35 Try.loadF35 Try.store35 Try.some35 Try.load36 Try.loadF36 Try.store36 Try.some36 Try.load37 Try.loadF37 Try.store37 Try.some37 Try.load38 Try.loadF38 Try.store38 Try.some38 Try.load39 Try.loadF39 Try.store39 Try.some39
attribute [go_sem] Try.load40 Try.loadF40 Try.store40 Try.some40 Try.load41 Try.loadF41 Try.store41 Try.some41 Try.load42 Try.loadF42 Try.store42 Try.some42 Try.load43 Try.loadF43 Try.store43 Try.some43 Try.load44 Try.loadF44 Try.store44 Try.some44 Try.load45 Try.loadF45 Try.store45 Try.some45 Try.load46 Try.loadF46 Try.store46 Try.some46 Try.load47 Try.loadF47 Try.store47 Try.some47 Try.load48 Try.loadF48 Try.store48 Try.some48 Try.load49 Try.loadF49 Try.store49 Try.some49
attribute [go_sem] Try.load50 Try.loadF50 Try.store50 Try.some50 Try.load51 Try.loadF51 Try.store51 Try.some51 Try.load52 Try.loadF52 Try.store52 Try.some52 Try.load53 Try.loadF53 Try.store53 Try.some53 Try.load54 Try.loadF54 Try.store54 Try.some54 Try.load55 Try.loadF55 Try.store55 Try.some55 Try.load56 Try.loadF56 Try.store56 Try.some56 Try.load57 Try.loadF57 Try.store57 Try.some57 Try.load58 Try.loadF58 Try.store58 Try.some58 Try.load59 Try.loadF59 Try.store59 Try.some59
attribute [go_sem] Try.load60 Try.loadF60 Try.store60 Try.some60 Try.load61 Try.loadF61 Try.store61 Try.some61 Try.load62 Try.loadF62 Try.store62 Try.some62 Try.load63 Try.loadF63 Try.store63 Try.some63 Try.load64 Try.loadF64 Try.store64 Try.some64 Try.load65 Try.loadF65 Try.store65 Try.some65 Try.load66 Try.loadF66 Try.store66 Try.some66 Try.fieldAddr7_0 Try.fieldAddrF7_0 Try.field7_0 Try.fieldAddr7_1 Try.fieldAddrF7_1 Try.field7_1 Try.fieldAddr7_2 Try.fieldAddrF7_2 Try.field7_2 Try.fieldAddr7_3 Try.fieldAddrF7_3 Try.field7_3
attribute [go_sem] Try.fieldAddr8_0 Try.fieldAddrF8_0 Try.field8_0 Try.fieldAddr8_1 Try.fieldAddrF8_1 Try.field8_1 Try.fieldAddr8_2 Try.fieldAddrF8_2 Try.field8_2 Try.fieldAddr8_3 Try.fieldAddrF8_3 Try.field8_3 Try.fieldAddr13_0 Try.fieldAddrF13_0 Try.field13_0 Try.fieldAddr13_1 Try.fieldAddrF13_1 Try.field13_1 Try.fieldAddr14_0 Try.fieldAddrF14_0 Try.field14_0 Try.fieldAddr14_1 Try.fieldAddrF14_1 Try.field14_1 Try.fieldAddr18_0 Try.fieldAddrF18_0 Try.field18_0 Try.fieldAddr19_0 Try.fieldAddrF19_0 Try.field19_0 Try.fieldAddr29_0 Try.fieldAddrF29_0 Try.field29_0 Try.fieldAddr29_1 Try.fieldAddrF29_1 Try.field29_1 Try.fieldAddr29_2 Try.fieldAddrF29_2 Try.field29_2 Try.fieldAddr30_0
attribute [go_sem] Try.fieldAddrF30_0 Try.field30_0 Try.fieldAddr30_1 Try.fieldAddrF30_1 Try.field30_1 Try.fieldAddr30_2 Try.fieldAddrF30_2 Try.field30_2 Try.fieldAddr51_0 Try.fieldAddrF51_0 Try.field51_0 Try.fieldAddr51_1 Try.fieldAddrF51_1 Try.field51_1 Try.fieldAddr51_2 Try.fieldAddrF51_2 Try.field51_2 Try.fieldAddr51_3 Try.fieldAddrF51_3 Try.field51_3 Try.fieldAddr52_0 Try.fieldAddrF52_0 Try.field52_0 Try.fieldAddr52_1 Try.fieldAddrF52_1 Try.field52_1 Try.fieldAddr52_2 Try.fieldAddrF52_2 Try.field52_2 Try.fieldAddr52_3 Try.fieldAddrF52_3 Try.field52_3 Try.fieldAddr54_0 Try.fieldAddrF54_0 Try.field54_0 Try.fieldAddr55_0 Try.fieldAddrF55_0 Try.field55_0 Try.fieldAddr64_0 Try.fieldAddrF64_0
attribute [go_sem] Try.field64_0 Try.fieldAddr64_1 Try.fieldAddrF64_1 Try.field64_1 Try.fieldAddr64_2 Try.fieldAddrF64_2 Try.field64_2 Try.fieldAddr64_3 Try.fieldAddrF64_3 Try.field64_3 Try.fieldAddr64_4 Try.fieldAddrF64_4 Try.field64_4 Try.fieldAddr64_5 Try.fieldAddrF64_5 Try.field64_5 Try.fieldAddr64_6 Try.fieldAddrF64_6 Try.field64_6 Try.fieldAddr64_7 Try.fieldAddrF64_7 Try.field64_7 Try.fieldAddr64_8 Try.fieldAddrF64_8 Try.field64_8 Try.fieldAddr64_9 Try.fieldAddrF64_9 Try.field64_9 Try.fieldAddr64_10 Try.fieldAddrF64_10 Try.field64_10 Try.fieldAddr65_0 Try.fieldAddrF65_0 Try.field65_0 Try.fieldAddr65_1 Try.fieldAddrF65_1 Try.field65_1 Try.fieldAddr65_2 Try.fieldAddrF65_2 Try.field65_2
attribute [go_sem] Try.fieldAddr65_3 Try.fieldAddrF65_3 Try.field65_3 Try.fieldAddr65_4 Try.fieldAddrF65_4 Try.field65_4 Try.fieldAddr65_5 Try.fieldAddrF65_5 Try.field65_5 Try.fieldAddr65_6 Try.fieldAddrF65_6 Try.field65_6 Try.fieldAddr65_7 Try.fieldAddrF65_7 Try.field65_7 Try.fieldAddr65_8 Try.fieldAddrF65_8 Try.field65_8 Try.fieldAddr65_9 Try.fieldAddrF65_9 Try.field65_9 Try.fieldAddr65_10 Try.fieldAddrF65_10 Try.field65_10 Try.alloc1 Try.alloc2 Try.alloc3 Try.alloc4 Try.alloc5 Try.alloc6 Try.alloc7 Try.alloc8 Try.alloc9 Try.alloc10 Try.alloc11 Try.alloc12 Try.alloc13 Try.alloc14 Try.alloc15 Try.alloc16
attribute [go_sem] Try.alloc17 Try.alloc18 Try.alloc19 Try.alloc20 Try.alloc21 Try.alloc22 Try.alloc23 Try.alloc24 Try.alloc25 Try.alloc26 Try.alloc27 Try.alloc28 Try.alloc29 Try.alloc30 Try.alloc31 Try.alloc32 Try.alloc33 Try.alloc34 Try.alloc35 Try.alloc36 Try.alloc37 Try.alloc39 Try.alloc40 Try.alloc41 Try.alloc42 Try.alloc43 Try.alloc44 Try.alloc45 Try.alloc46 Try.alloc47 Try.alloc48 Try.alloc49 Try.alloc50 Try.alloc51 Try.alloc52 Try.alloc56 Try.alloc57 Try.alloc58 Try.alloc59 Try.alloc60
attribute [go_sem] Try.alloc61 Try.alloc62 Try.alloc63 Try.alloc64 Try.alloc65 Try.alloc66 Try.build7 Try.build8 Try.build13 Try.build14 Try.build18 Try.build19 Try.build29 Try.build30 Try.build51 Try.build52 Try.build64 Try.build65 Try.index23 Try.indexA23 Try.indexF23 Try.sliceF23 Try.arrptrZ23 Try.lenA23 Try.sliceA23 Try.arrptr23 Try.buildA23 Try.index24 Try.indexA24 Try.indexF24 Try.sliceF24 Try.arrptrZ24 Try.lenA24 Try.sliceA24 Try.arrptr24 Try.buildA24 Try.index53 Try.indexA53 Try.indexF53 Try.sliceF53
attribute [go_sem] Try.arrptrZ53 Try.lenA53 Try.sliceA53 Try.arrptr53 Try.indexS22 Try.indexZ22 Try.indexV22 Try.lenZ22 Try.lenV22 Try.lenO22 Try.indexO22 Try.sliceV22 Try.sliceZ22 Try.len22 Try.sliceS22 Try.sliceN22 Try.buildS22 Try.make22 Try.append22 Try.indexS26 Try.indexZ26 Try.indexV26 Try.lenZ26 Try.lenV26 Try.lenO26 Try.indexO26 Try.sliceV26 Try.sliceZ26 Try.len26 Try.sliceS26 Try.sliceN26 Try.buildS26 Try.make26 Try.append26 Try.indexS44 Try.indexZ44 Try.indexV44 Try.lenZ44 Try.lenV44 Try.lenO44
attribute [go_sem] Try.indexO44 Try.sliceV44 Try.sliceZ44 Try.len44 Try.sliceS44 Try.sliceN44 Try.buildS44 Try.make44 Try.append44 Try.conv2 Try.conv3 Try.conv5 Try.conv6 Try.conv12 Try.conv21 Try.conv27 Try.conv48 Try.conv57 Try.conv58 Try.conv59 Try.conv62 Try.conv63 Try.nint9 Try.nint10 Try.nint11 Try.nint22 Try.nint26 Try.nint44 Try.lenT9 Try.sliceT9 Try.lenT10 Try.sliceT10 Try.lenT11 Try.sliceT11 Try.eqlB4 Try.neqB4 Try.eqlR23 Try.neqR23 Try.eqlR24 Try.neqR24
attribute [go_sem] Try.hb2 Try.hb3 Try.hb4 Try.hb5 Try.hb6 Try.hb7 Try.hb8 Try.hb9 Try.hb10 Try.hb11 Try.hb12 Try.hb13 Try.hb14 Try.hb15 Try.hb16 Try.hb17 Try.hb18 Try.hb19 Try.hb20 Try.hb22 Try.hb24 Try.hb25 Try.cmp23
end Go.Proofs
