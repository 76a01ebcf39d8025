import Derived.Test.YtlimncmlocojkaaDoorAm37x
import Derived.Test.YtlimncmlocojkaaDoorProg
import Derived.KernelRfl
/- Closed facts of the types and functions. -/
namespace Go.Proofs
open Go Go.Am
theorem Tryd.tyc0 : tyc Tryd.prog 0 = some (false, 1) := by kernel_rfl
theorem Tryd.load0 {h : AH} {b o : Nat} : aload Tryd.prog h 0 (.pointer (some ⟨b, o, none⟩)) = mkLoad o (some (false, 1)) h[b]? := aload_eq Tryd.tyc0
theorem Tryd.loadF0 {h : AH} {c : Array Value} {n : Nat} : aload Tryd.prog h 0 (fp c n) = mkLoadF c n (some (false, 1)) := aload_fp Tryd.tyc0
theorem Tryd.store0 {h : AH} {b o : Nat} {v : Value} : astore Tryd.prog h 0 (.pointer (some ⟨b, o, none⟩)) v = mkStore h b o v (some (false, 1)) h[b]? := astore_eq' Tryd.tyc0
theorem Tryd.some0 : (tyc Tryd.prog 0).isSome = true := by rw [Tryd.tyc0]; rfl
theorem Tryd.tyc1 : tyc Tryd.prog 1 = some (false, 1) := by kernel_rfl
theorem Tryd.load1 {h : AH} {b o : Nat} : aload Tryd.prog h 1 (.pointer (some ⟨b, o, none⟩)) = mkLoad o (some (false, 1)) h[b]? := aload_eq Tryd.tyc1
theorem Tryd.loadF1 {h : AH} {c : Array Value} {n : Nat} : aload Tryd.prog h 1 (fp c n) = mkLoadF c n (some (false, 1)) := aload_fp Tryd.tyc1
theorem Tryd.store1 {h : AH} {b o : Nat} {v : Value} : astore Tryd.prog h 1 (.pointer (some ⟨b, o, none⟩)) v = mkStore h b o v (some (false, 1)) h[b]? := astore_eq' Tryd.tyc1
theorem Tryd.some1 : (tyc Tryd.prog 1).isSome = true := by rw [Tryd.tyc1]; rfl
theorem Tryd.tyc2 : tyc Tryd.prog 2 = some (false, 1) := by kernel_rfl
theorem Tryd.load2 {h : AH} {b o : Nat} : aload Tryd.prog h 2 (.pointer (some ⟨b, o, none⟩)) = mkLoad o (some (false, 1)) h[b]? := aload_eq Tryd.tyc2
theorem Tryd.loadF2 {h : AH} {c : Array Value} {n : Nat} : aload Tryd.prog h 2 (fp c n) = mkLoadF c n (some (false, 1)) := aload_fp Tryd.tyc2
theorem Tryd.store2 {h : AH} {b o : Nat} {v : Value} : astore Tryd.prog h 2 (.pointer (some ⟨b, o, none⟩)) v = mkStore h b o v (some (false, 1)) h[b]? := astore_eq' Tryd.tyc2
theorem Tryd.some2 : (tyc Tryd.prog 2).isSome = true := by rw [Tryd.tyc2]; rfl
theorem Tryd.tyc3 : tyc Tryd.prog 3 = some (false, 1) := by kernel_rfl
theorem Tryd.load3 {h : AH} {b o : Nat} : aload Tryd.prog h 3 (.pointer (some ⟨b, o, none⟩)) = mkLoad o (some (false, 1)) h[b]? := aload_eq Tryd.tyc3
theorem Tryd.loadF3 {h : AH} {c : Array Value} {n : Nat} : aload Tryd.prog h 3 (fp c n) = mkLoadF c n (some (false, 1)) := aload_fp Tryd.tyc3
theorem Tryd.store3 {h : AH} {b o : Nat} {v : Value} : astore Tryd.prog h 3 (.pointer (some ⟨b, o, none⟩)) v = mkStore h b o v (some (false, 1)) h[b]? := astore_eq' Tryd.tyc3
theorem Tryd.some3 : (tyc Tryd.prog 3).isSome = true := by rw [Tryd.tyc3]; rfl
theorem Tryd.tyc4 : tyc Tryd.prog 4 = some (false, 1) := by kernel_rfl
theorem Tryd.load4 {h : AH} {b o : Nat} : aload Tryd.prog h 4 (.pointer (some ⟨b, o, none⟩)) = mkLoad o (some (false, 1)) h[b]? := aload_eq Tryd.tyc4
theorem Tryd.loadF4 {h : AH} {c : Array Value} {n : Nat} : aload Tryd.prog h 4 (fp c n) = mkLoadF c n (some (false, 1)) := aload_fp Tryd.tyc4
theorem Tryd.store4 {h : AH} {b o : Nat} {v : Value} : astore Tryd.prog h 4 (.pointer (some ⟨b, o, none⟩)) v = mkStore h b o v (some (false, 1)) h[b]? := astore_eq' Tryd.tyc4
theorem Tryd.some4 : (tyc Tryd.prog 4).isSome = true := by rw [Tryd.tyc4]; rfl
theorem Tryd.tyc5 : tyc Tryd.prog 5 = some (false, 1) := by kernel_rfl
theorem Tryd.load5 {h : AH} {b o : Nat} : aload Tryd.prog h 5 (.pointer (some ⟨b, o, none⟩)) = mkLoad o (some (false, 1)) h[b]? := aload_eq Tryd.tyc5
theorem Tryd.loadF5 {h : AH} {c : Array Value} {n : Nat} : aload Tryd.prog h 5 (fp c n) = mkLoadF c n (some (false, 1)) := aload_fp Tryd.tyc5
theorem Tryd.store5 {h : AH} {b o : Nat} {v : Value} : astore Tryd.prog h 5 (.pointer (some ⟨b, o, none⟩)) v = mkStore h b o v (some (false, 1)) h[b]? := astore_eq' Tryd.tyc5
theorem Tryd.some5 : (tyc Tryd.prog 5).isSome = true := by rw [Tryd.tyc5]; rfl
theorem Tryd.tyc6 : tyc Tryd.prog 6 = some (false, 1) := by kernel_rfl
theorem Tryd.load6 {h : AH} {b o : Nat} : aload Tryd.prog h 6 (.pointer (some ⟨b, o, none⟩)) = mkLoad o (some (false, 1)) h[b]? := aload_eq Tryd.tyc6
theorem Tryd.loadF6 {h : AH} {c : Array Value} {n : Nat} : aload Tryd.prog h 6 (fp c n) = mkLoadF c n (some (false, 1)) := aload_fp Tryd.tyc6
theorem Tryd.store6 {h : AH} {b o : Nat} {v : Value} : astore Tryd.prog h 6 (.pointer (some ⟨b, o, none⟩)) v = mkStore h b o v (some (false, 1)) h[b]? := astore_eq' Tryd.tyc6
theorem Tryd.some6 : (tyc Tryd.prog 6).isSome = true := by rw [Tryd.tyc6]; rfl
theorem Tryd.tyc7 : tyc Tryd.prog 7 = some (true, 4) := by kernel_rfl
theorem Tryd.load7 {h : AH} {b o : Nat} : aload Tryd.prog h 7 (.pointer (some ⟨b, o, none⟩)) = mkLoad o (some (true, 4)) h[b]? := aload_eq Tryd.tyc7
theorem Tryd.loadF7 {h : AH} {c : Array Value} {n : Nat} : aload Tryd.prog h 7 (fp c n) = mkLoadF c n (some (true, 4)) := aload_fp Tryd.tyc7
theorem Tryd.store7 {h : AH} {b o : Nat} {v : Value} : astore Tryd.prog h 7 (.pointer (some ⟨b, o, none⟩)) v = mkStore h b o v (some (true, 4)) h[b]? := astore_eq' Tryd.tyc7
theorem Tryd.some7 : (tyc Tryd.prog 7).isSome = true := by rw [Tryd.tyc7]; rfl
theorem Tryd.tyc8 : tyc Tryd.prog 8 = some (true, 4) := by kernel_rfl
theorem Tryd.load8 {h : AH} {b o : Nat} : aload Tryd.prog h 8 (.pointer (some ⟨b, o, none⟩)) = mkLoad o (some (true, 4)) h[b]? := aload_eq Tryd.tyc8
theorem Tryd.loadF8 {h : AH} {c : Array Value} {n : Nat} : aload Tryd.prog h 8 (fp c n) = mkLoadF c n (some (true, 4)) := aload_fp Tryd.tyc8
theorem Tryd.store8 {h : AH} {b o : Nat} {v : Value} : astore Tryd.prog h 8 (.pointer (some ⟨b, o, none⟩)) v = mkStore h b o v (some (true, 4)) h[b]? := astore_eq' Tryd.tyc8
theorem Tryd.some8 : (tyc Tryd.prog 8).isSome = true := by rw [Tryd.tyc8]; rfl
theorem Tryd.tyc9 : tyc Tryd.prog 9 = some (false, 1) := by kernel_rfl
theorem Tryd.load9 {h : AH} {b o : Nat} : aload Tryd.prog h 9 (.pointer (some ⟨b, o, none⟩)) = mkLoad o (some (false, 1)) h[b]? := aload_eq Tryd.tyc9
theorem Tryd.loadF9 {h : AH} {c : Array Value} {n : Nat} : aload Tryd.prog h 9 (fp c n) = mkLoadF c n (some (false, 1)) := aload_fp Tryd.tyc9
theorem Tryd.store9 {h : AH} {b o : Nat} {v : Value} : astore Tryd.prog h 9 (.pointer (some ⟨b, o, none⟩)) v = mkStore h b o v (some (false, 1)) h[b]? := astore_eq' Tryd.tyc9
theorem Tryd.some9 : (tyc Tryd.prog 9).isSome = true := by rw [Tryd.tyc9]; rfl
theorem Tryd.tyc10 : tyc Tryd.prog 10 = some (false, 1) := by kernel_rfl
theorem Tryd.load10 {h : AH} {b o : Nat} : aload Tryd.prog h 10 (.pointer (some ⟨b, o, none⟩)) = mkLoad o (some (false, 1)) h[b]? := aload_eq Tryd.tyc10
theorem Tryd.loadF10 {h : AH} {c : Array Value} {n : Nat} : aload Tryd.prog h 10 (fp c n) = mkLoadF c n (some (false, 1)) := aload_fp Tryd.tyc10
theorem Tryd.store10 {h : AH} {b o : Nat} {v : Value} : astore Tryd.prog h 10 (.pointer (some ⟨b, o, none⟩)) v = mkStore h b o v (some (false, 1)) h[b]? := astore_eq' Tryd.tyc10
theorem Tryd.some10 : (tyc Tryd.prog 10).isSome = true := by rw [Tryd.tyc10]; rfl
theorem Tryd.tyc11 : tyc Tryd.prog 11 = some (false, 1) := by kernel_rfl
theorem Tryd.load11 {h : AH} {b o : Nat} : aload Tryd.prog h 11 (.pointer (some ⟨b, o, none⟩)) = mkLoad o (some (false, 1)) h[b]? := aload_eq Tryd.tyc11
theorem Tryd.loadF11 {h : AH} {c : Array Value} {n : Nat} : aload Tryd.prog h 11 (fp c n) = mkLoadF c n (some (false, 1)) := aload_fp Tryd.tyc11
theorem Tryd.store11 {h : AH} {b o : Nat} {v : Value} : astore Tryd.prog h 11 (.pointer (some ⟨b, o, none⟩)) v = mkStore h b o v (some (false, 1)) h[b]? := astore_eq' Tryd.tyc11
theorem Tryd.some11 : (tyc Tryd.prog 11).isSome = true := by rw [Tryd.tyc11]; rfl
theorem Tryd.tyc12 : tyc Tryd.prog 12 = some (false, 1) := by kernel_rfl
theorem Tryd.load12 {h : AH} {b o : Nat} : aload Tryd.prog h 12 (.pointer (some ⟨b, o, none⟩)) = mkLoad o (some (false, 1)) h[b]? := aload_eq Tryd.tyc12
theorem Tryd.loadF12 {h : AH} {c : Array Value} {n : Nat} : aload Tryd.prog h 12 (fp c n) = mkLoadF c n (some (false, 1)) := aload_fp Tryd.tyc12
theorem Tryd.store12 {h : AH} {b o : Nat} {v : Value} : astore Tryd.prog h 12 (.pointer (some ⟨b, o, none⟩)) v = mkStore h b o v (some (false, 1)) h[b]? := astore_eq' Tryd.tyc12
theorem Tryd.some12 : (tyc Tryd.prog 12).isSome = true := by rw [Tryd.tyc12]; rfl
theorem Tryd.tyc13 : tyc Tryd.prog 13 = some (true, 2) := by kernel_rfl
theorem Tryd.load13 {h : AH} {b o : Nat} : aload Tryd.prog h 13 (.pointer (some ⟨b, o, none⟩)) = mkLoad o (some (true, 2)) h[b]? := aload_eq Tryd.tyc13
theorem Tryd.loadF13 {h : AH} {c : Array Value} {n : Nat} : aload Tryd.prog h 13 (fp c n) = mkLoadF c n (some (true, 2)) := aload_fp Tryd.tyc13
theorem Tryd.store13 {h : AH} {b o : Nat} {v : Value} : astore Tryd.prog h 13 (.pointer (some ⟨b, o, none⟩)) v = mkStore h b o v (some (true, 2)) h[b]? := astore_eq' Tryd.tyc13
theorem Tryd.some13 : (tyc Tryd.prog 13).isSome = true := by rw [Tryd.tyc13]; rfl
theorem Tryd.tyc14 : tyc Tryd.prog 14 = some (true, 2) := by kernel_rfl
theorem Tryd.load14 {h : AH} {b o : Nat} : aload Tryd.prog h 14 (.pointer (some ⟨b, o, none⟩)) = mkLoad o (some (true, 2)) h[b]? := aload_eq Tryd.tyc14
theorem Tryd.loadF14 {h : AH} {c : Array Value} {n : Nat} : aload Tryd.prog h 14 (fp c n) = mkLoadF c n (some (true, 2)) := aload_fp Tryd.tyc14
theorem Tryd.store14 {h : AH} {b o : Nat} {v : Value} : astore Tryd.prog h 14 (.pointer (some ⟨b, o, none⟩)) v = mkStore h b o v (some (true, 2)) h[b]? := astore_eq' Tryd.tyc14
theorem Tryd.some14 : (tyc Tryd.prog 14).isSome = true := by rw [Tryd.tyc14]; rfl
theorem Tryd.tyc15 : tyc Tryd.prog 15 = some (false, 1) := by kernel_rfl
theorem Tryd.load15 {h : AH} {b o : Nat} : aload Tryd.prog h 15 (.pointer (some ⟨b, o, none⟩)) = mkLoad o (some (false, 1)) h[b]? := aload_eq Tryd.tyc15
theorem Tryd.loadF15 {h : AH} {c : Array Value} {n : Nat} : aload Tryd.prog h 15 (fp c n) = mkLoadF c n (some (false, 1)) := aload_fp Tryd.tyc15
theorem Tryd.store15 {h : AH} {b o : Nat} {v : Value} : astore Tryd.prog h 15 (.pointer (some ⟨b, o, none⟩)) v = mkStore h b o v (some (false, 1)) h[b]? := astore_eq' Tryd.tyc15
theorem Tryd.some15 : (tyc Tryd.prog 15).isSome = true := by rw [Tryd.tyc15]; rfl
theorem Tryd.tyc16 : tyc Tryd.prog 16 = some (false, 1) := by kernel_rfl
theorem Tryd.load16 {h : AH} {b o : Nat} : aload Tryd.prog h 16 (.pointer (some ⟨b, o, none⟩)) = mkLoad o (some (false, 1)) h[b]? := aload_eq Tryd.tyc16
theorem Tryd.loadF16 {h : AH} {c : Array Value} {n : Nat} : aload Tryd.prog h 16 (fp c n) = mkLoadF c n (some (false, 1)) := aload_fp Tryd.tyc16
theorem Tryd.store16 {h : AH} {b o : Nat} {v : Value} : astore Tryd.prog h 16 (.pointer (some ⟨b, o, none⟩)) v = mkStore h b o v (some (false, 1)) h[b]? := astore_eq' Tryd.tyc16
theorem Tryd.some16 : (tyc Tryd.prog 16).isSome = true := by rw [Tryd.tyc16]; rfl
theorem Tryd.tyc17 : tyc Tryd.prog 17 = some (false, 1) := by kernel_rfl
theorem Tryd.load17 {h : AH} {b o : Nat} : aload Tryd.prog h 17 (.pointer (some ⟨b, o, none⟩)) = mkLoad o (some (false, 1)) h[b]? := aload_eq Tryd.tyc17
theorem Tryd.loadF17 {h : AH} {c : Array Value} {n : Nat} : aload Tryd.prog h 17 (fp c n) = mkLoadF c n (some (false, 1)) := aload_fp Tryd.tyc17
theorem Tryd.store17 {h : AH} {b o : Nat} {v : Value} : astore Tryd.prog h 17 (.pointer (some ⟨b, o, none⟩)) v = mkStore h b o v (some (false, 1)) h[b]? := astore_eq' Tryd.tyc17
theorem Tryd.some17 : (tyc Tryd.prog 17).isSome = true := by rw [Tryd.tyc17]; rfl
theorem Tryd.tyc18 : tyc Tryd.prog 18 = some (true, 1) := by kernel_rfl
theorem Tryd.load18 {h : AH} {b o : Nat} : aload Tryd.prog h 18 (.pointer (some ⟨b, o, none⟩)) = mkLoad o (some (true, 1)) h[b]? := aload_eq Tryd.tyc18
theorem Tryd.loadF18 {h : AH} {c : Array Value} {n : Nat} : aload Tryd.prog h 18 (fp c n) = mkLoadF c n (some (true, 1)) := aload_fp Tryd.tyc18
theorem Tryd.store18 {h : AH} {b o : Nat} {v : Value} : astore Tryd.prog h 18 (.pointer (some ⟨b, o, none⟩)) v = mkStore h b o v (some (true, 1)) h[b]? := astore_eq' Tryd.tyc18
theorem Tryd.some18 : (tyc Tryd.prog 18).isSome = true := by rw [Tryd.tyc18]; rfl
theorem Tryd.tyc19 : tyc Tryd.prog 19 = some (true, 1) := by kernel_rfl
theorem Tryd.load19 {h : AH} {b o : Nat} : aload Tryd.prog h 19 (.pointer (some ⟨b, o, none⟩)) = mkLoad o (some (true, 1)) h[b]? := aload_eq Tryd.tyc19
theorem Tryd.loadF19 {h : AH} {c : Array Value} {n : Nat} : aload Tryd.prog h 19 (fp c n) = mkLoadF c n (some (true, 1)) := aload_fp Tryd.tyc19
theorem Tryd.store19 {h : AH} {b o : Nat} {v : Value} : astore Tryd.prog h 19 (.pointer (some ⟨b, o, none⟩)) v = mkStore h b o v (some (true, 1)) h[b]? := astore_eq' Tryd.tyc19
theorem Tryd.some19 : (tyc Tryd.prog 19).isSome = true := by rw [Tryd.tyc19]; rfl
theorem Tryd.tyc20 : tyc Tryd.prog 20 = some (false, 1) := by kernel_rfl
theorem Tryd.load20 {h : AH} {b o : Nat} : aload Tryd.prog h 20 (.pointer (some ⟨b, o, none⟩)) = mkLoad o (some (false, 1)) h[b]? := aload_eq Tryd.tyc20
theorem Tryd.loadF20 {h : AH} {c : Array Value} {n : Nat} : aload Tryd.prog h 20 (fp c n) = mkLoadF c n (some (false, 1)) := aload_fp Tryd.tyc20
theorem Tryd.store20 {h : AH} {b o : Nat} {v : Value} : astore Tryd.prog h 20 (.pointer (some ⟨b, o, none⟩)) v = mkStore h b o v (some (false, 1)) h[b]? := astore_eq' Tryd.tyc20
theorem Tryd.some20 : (tyc Tryd.prog 20).isSome = true := by rw [Tryd.tyc20]; rfl
theorem Tryd.tyc21 : tyc Tryd.prog 21 = some (false, 1) := by kernel_rfl
theorem Tryd.load21 {h : AH} {b o : Nat} : aload Tryd.prog h 21 (.pointer (some ⟨b, o, none⟩)) = mkLoad o (some (false, 1)) h[b]? := aload_eq Tryd.tyc21
theorem Tryd.loadF21 {h : AH} {c : Array Value} {n : Nat} : aload Tryd.prog h 21 (fp c n) = mkLoadF c n (some (false, 1)) := aload_fp Tryd.tyc21
theorem Tryd.store21 {h : AH} {b o : Nat} {v : Value} : astore Tryd.prog h 21 (.pointer (some ⟨b, o, none⟩)) v = mkStore h b o v (some (false, 1)) h[b]? := astore_eq' Tryd.tyc21
theorem Tryd.some21 : (tyc Tryd.prog 21).isSome = true := by rw [Tryd.tyc21]; rfl
theorem Tryd.tyc22 : tyc Tryd.prog 22 = some (false, 1) := by kernel_rfl
theorem Tryd.load22 {h : AH} {b o : Nat} : aload Tryd.prog h 22 (.pointer (some ⟨b, o, none⟩)) = mkLoad o (some (false, 1)) h[b]? := aload_eq Tryd.tyc22
theorem Tryd.loadF22 {h : AH} {c : Array Value} {n : Nat} : aload Tryd.prog h 22 (fp c n) = mkLoadF c n (some (false, 1)) := aload_fp Tryd.tyc22
theorem Tryd.store22 {h : AH} {b o : Nat} {v : Value} : astore Tryd.prog h 22 (.pointer (some ⟨b, o, none⟩)) v = mkStore h b o v (some (false, 1)) h[b]? := astore_eq' Tryd.tyc22
theorem Tryd.some22 : (tyc Tryd.prog 22).isSome = true := by rw [Tryd.tyc22]; rfl
theorem Tryd.tyc23 : tyc Tryd.prog 23 = some (false, 1) := by kernel_rfl
theorem Tryd.load23 {h : AH} {b o : Nat} : aload Tryd.prog h 23 (.pointer (some ⟨b, o, none⟩)) = mkLoad o (some (false, 1)) h[b]? := aload_eq Tryd.tyc23
theorem Tryd.loadF23 {h : AH} {c : Array Value} {n : Nat} : aload Tryd.prog h 23 (fp c n) = mkLoadF c n (some (false, 1)) := aload_fp Tryd.tyc23
theorem Tryd.store23 {h : AH} {b o : Nat} {v : Value} : astore Tryd.prog h 23 (.pointer (some ⟨b, o, none⟩)) v = mkStore h b o v (some (false, 1)) h[b]? := astore_eq' Tryd.tyc23
theorem Tryd.some23 : (tyc Tryd.prog 23).isSome = true := by rw [Tryd.tyc23]; rfl
theorem Tryd.tyc24 : tyc Tryd.prog 24 = some (false, 1) := by kernel_rfl
theorem Tryd.load24 {h : AH} {b o : Nat} : aload Tryd.prog h 24 (.pointer (some ⟨b, o, none⟩)) = mkLoad o (some (false, 1)) h[b]? := aload_eq Tryd.tyc24
theorem Tryd.loadF24 {h : AH} {c : Array Value} {n : Nat} : aload Tryd.prog h 24 (fp c n) = mkLoadF c n (some (false, 1)) := aload_fp Tryd.tyc24
theorem Tryd.store24 {h : AH} {b o : Nat} {v : Value} : astore Tryd.prog h 24 (.pointer (some ⟨b, o, none⟩)) v = mkStore h b o v (some (false, 1)) h[b]? := astore_eq' Tryd.tyc24
theorem Tryd.some24 : (tyc Tryd.prog 24).isSome = true := by rw [Tryd.tyc24]; rfl
theorem Tryd.tyc25 : tyc Tryd.prog 25 = some (true, 4) := by kernel_rfl
theorem Tryd.load25 {h : AH} {b o : Nat} : aload Tryd.prog h 25 (.pointer (some ⟨b, o, none⟩)) = mkLoad o (some (true, 4)) h[b]? := aload_eq Tryd.tyc25
theorem Tryd.loadF25 {h : AH} {c : Array Value} {n : Nat} : aload Tryd.prog h 25 (fp c n) = mkLoadF c n (some (true, 4)) := aload_fp Tryd.tyc25
theorem Tryd.store25 {h : AH} {b o : Nat} {v : Value} : astore Tryd.prog h 25 (.pointer (some ⟨b, o, none⟩)) v = mkStore h b o v (some (true, 4)) h[b]? := astore_eq' Tryd.tyc25
theorem Tryd.some25 : (tyc Tryd.prog 25).isSome = true := by rw [Tryd.tyc25]; rfl
theorem Tryd.tyc26 : tyc Tryd.prog 26 = some (true, 4) := by kernel_rfl
theorem Tryd.load26 {h : AH} {b o : Nat} : aload Tryd.prog h 26 (.pointer (some ⟨b, o, none⟩)) = mkLoad o (some (true, 4)) h[b]? := aload_eq Tryd.tyc26
theorem Tryd.loadF26 {h : AH} {c : Array Value} {n : Nat} : aload Tryd.prog h 26 (fp c n) = mkLoadF c n (some (true, 4)) := aload_fp Tryd.tyc26
theorem Tryd.store26 {h : AH} {b o : Nat} {v : Value} : astore Tryd.prog h 26 (.pointer (some ⟨b, o, none⟩)) v = mkStore h b o v (some (true, 4)) h[b]? := astore_eq' Tryd.tyc26
theorem Tryd.some26 : (tyc Tryd.prog 26).isSome = true := by rw [Tryd.tyc26]; rfl
theorem Tryd.tyc27 : tyc Tryd.prog 27 = some (false, 1) := by kernel_rfl
theorem Tryd.load27 {h : AH} {b o : Nat} : aload Tryd.prog h 27 (.pointer (some ⟨b, o, none⟩)) = mkLoad o (some (false, 1)) h[b]? := aload_eq Tryd.tyc27
theorem Tryd.loadF27 {h : AH} {c : Array Value} {n : Nat} : aload Tryd.prog h 27 (fp c n) = mkLoadF c n (some (false, 1)) := aload_fp Tryd.tyc27
theorem Tryd.store27 {h : AH} {b o : Nat} {v : Value} : astore Tryd.prog h 27 (.pointer (some ⟨b, o, none⟩)) v = mkStore h b o v (some (false, 1)) h[b]? := astore_eq' Tryd.tyc27
theorem Tryd.some27 : (tyc Tryd.prog 27).isSome = true := by rw [Tryd.tyc27]; rfl
theorem Tryd.tyc28 : tyc Tryd.prog 28 = some (false, 1) := by kernel_rfl
theorem Tryd.load28 {h : AH} {b o : Nat} : aload Tryd.prog h 28 (.pointer (some ⟨b, o, none⟩)) = mkLoad o (some (false, 1)) h[b]? := aload_eq Tryd.tyc28
theorem Tryd.loadF28 {h : AH} {c : Array Value} {n : Nat} : aload Tryd.prog h 28 (fp c n) = mkLoadF c n (some (false, 1)) := aload_fp Tryd.tyc28
theorem Tryd.store28 {h : AH} {b o : Nat} {v : Value} : astore Tryd.prog h 28 (.pointer (some ⟨b, o, none⟩)) v = mkStore h b o v (some (false, 1)) h[b]? := astore_eq' Tryd.tyc28
theorem Tryd.some28 : (tyc Tryd.prog 28).isSome = true := by rw [Tryd.tyc28]; rfl
theorem Tryd.tyc29 : tyc Tryd.prog 29 = some (false, 1) := by kernel_rfl
theorem Tryd.load29 {h : AH} {b o : Nat} : aload Tryd.prog h 29 (.pointer (some ⟨b, o, none⟩)) = mkLoad o (some (false, 1)) h[b]? := aload_eq Tryd.tyc29
theorem Tryd.loadF29 {h : AH} {c : Array Value} {n : Nat} : aload Tryd.prog h 29 (fp c n) = mkLoadF c n (some (false, 1)) := aload_fp Tryd.tyc29
theorem Tryd.store29 {h : AH} {b o : Nat} {v : Value} : astore Tryd.prog h 29 (.pointer (some ⟨b, o, none⟩)) v = mkStore h b o v (some (false, 1)) h[b]? := astore_eq' Tryd.tyc29
theorem Tryd.some29 : (tyc Tryd.prog 29).isSome = true := by rw [Tryd.tyc29]; rfl
theorem Tryd.tyc30 : tyc Tryd.prog 30 = some (true, 8) := by kernel_rfl
theorem Tryd.load30 {h : AH} {b o : Nat} : aload Tryd.prog h 30 (.pointer (some ⟨b, o, none⟩)) = mkLoad o (some (true, 8)) h[b]? := aload_eq Tryd.tyc30
theorem Tryd.loadF30 {h : AH} {c : Array Value} {n : Nat} : aload Tryd.prog h 30 (fp c n) = mkLoadF c n (some (true, 8)) := aload_fp Tryd.tyc30
theorem Tryd.store30 {h : AH} {b o : Nat} {v : Value} : astore Tryd.prog h 30 (.pointer (some ⟨b, o, none⟩)) v = mkStore h b o v (some (true, 8)) h[b]? := astore_eq' Tryd.tyc30
theorem Tryd.some30 : (tyc Tryd.prog 30).isSome = true := by rw [Tryd.tyc30]; rfl
theorem Tryd.tyc31 : tyc Tryd.prog 31 = some (true, 8) := by kernel_rfl
theorem Tryd.load31 {h : AH} {b o : Nat} : aload Tryd.prog h 31 (.pointer (some ⟨b, o, none⟩)) = mkLoad o (some (true, 8)) h[b]? := aload_eq Tryd.tyc31
theorem Tryd.loadF31 {h : AH} {c : Array Value} {n : Nat} : aload Tryd.prog h 31 (fp c n) = mkLoadF c n (some (true, 8)) := aload_fp Tryd.tyc31
theorem Tryd.store31 {h : AH} {b o : Nat} {v : Value} : astore Tryd.prog h 31 (.pointer (some ⟨b, o, none⟩)) v = mkStore h b o v (some (true, 8)) h[b]? := astore_eq' Tryd.tyc31
theorem Tryd.some31 : (tyc Tryd.prog 31).isSome = true := by rw [Tryd.tyc31]; rfl
theorem Tryd.tyc32 : tyc Tryd.prog 32 = some (false, 1) := by kernel_rfl
theorem Tryd.load32 {h : AH} {b o : Nat} : aload Tryd.prog h 32 (.pointer (some ⟨b, o, none⟩)) = mkLoad o (some (false, 1)) h[b]? := aload_eq Tryd.tyc32
theorem Tryd.loadF32 {h : AH} {c : Array Value} {n : Nat} : aload Tryd.prog h 32 (fp c n) = mkLoadF c n (some (false, 1)) := aload_fp Tryd.tyc32
theorem Tryd.store32 {h : AH} {b o : Nat} {v : Value} : astore Tryd.prog h 32 (.pointer (some ⟨b, o, none⟩)) v = mkStore h b o v (some (false, 1)) h[b]? := astore_eq' Tryd.tyc32
theorem Tryd.some32 : (tyc Tryd.prog 32).isSome = true := by rw [Tryd.tyc32]; rfl
theorem Tryd.tyc33 : tyc Tryd.prog 33 = some (true, 128) := by kernel_rfl
theorem Tryd.load33 {h : AH} {b o : Nat} : aload Tryd.prog h 33 (.pointer (some ⟨b, o, none⟩)) = mkLoad o (some (true, 128)) h[b]? := aload_eq Tryd.tyc33
theorem Tryd.loadF33 {h : AH} {c : Array Value} {n : Nat} : aload Tryd.prog h 33 (fp c n) = mkLoadF c n (some (true, 128)) := aload_fp Tryd.tyc33
theorem Tryd.store33 {h : AH} {b o : Nat} {v : Value} : astore Tryd.prog h 33 (.pointer (some ⟨b, o, none⟩)) v = mkStore h b o v (some (true, 128)) h[b]? := astore_eq' Tryd.tyc33
theorem Tryd.some33 : (tyc Tryd.prog 33).isSome = true := by rw [Tryd.tyc33]; rfl
theorem Tryd.tyc34 : tyc Tryd.prog 34 = some (false, 1) := by kernel_rfl
theorem Tryd.load34 {h : AH} {b o : Nat} : aload Tryd.prog h 34 (.pointer (some ⟨b, o, none⟩)) = mkLoad o (some (false, 1)) h[b]? := aload_eq Tryd.tyc34
theorem Tryd.loadF34 {h : AH} {c : Array Value} {n : Nat} : aload Tryd.prog h 34 (fp c n) = mkLoadF c n (some (false, 1)) := aload_fp Tryd.tyc34
theorem Tryd.store34 {h : AH} {b o : Nat} {v : Value} : astore Tryd.prog h 34 (.pointer (some ⟨b, o, none⟩)) v = mkStore h b o v (some (false, 1)) h[b]? := astore_eq' Tryd.tyc34
theorem Tryd.some34 : (tyc Tryd.prog 34).isSome = true := by rw [Tryd.tyc34]; rfl
theorem Tryd.tyc35 : tyc Tryd.prog 35 = some (false, 1) := by kernel_rfl
theorem Tryd.load35 {h : AH} {b o : Nat} : aload Tryd.prog h 35 (.pointer (some ⟨b, o, none⟩)) = mkLoad o (some (false, 1)) h[b]? := aload_eq Tryd.tyc35
theorem Tryd.loadF35 {h : AH} {c : Array Value} {n : Nat} : aload Tryd.prog h 35 (fp c n) = mkLoadF c n (some (false, 1)) := aload_fp Tryd.tyc35
theorem Tryd.store35 {h : AH} {b o : Nat} {v : Value} : astore Tryd.prog h 35 (.pointer (some ⟨b, o, none⟩)) v = mkStore h b o v (some (false, 1)) h[b]? := astore_eq' Tryd.tyc35
theorem Tryd.some35 : (tyc Tryd.prog 35).isSome = true := by rw [Tryd.tyc35]; rfl
theorem Tryd.tyc36 : tyc Tryd.prog 36 = some (false, 1) := by kernel_rfl
theorem Tryd.load36 {h : AH} {b o : Nat} : aload Tryd.prog h 36 (.pointer (some ⟨b, o, none⟩)) = mkLoad o (some (false, 1)) h[b]? := aload_eq Tryd.tyc36
theorem Tryd.loadF36 {h : AH} {c : Array Value} {n : Nat} : aload Tryd.prog h 36 (fp c n) = mkLoadF c n (some (false, 1)) := aload_fp Tryd.tyc36
theorem Tryd.store36 {h : AH} {b o : Nat} {v : Value} : astore Tryd.prog h 36 (.pointer (some ⟨b, o, none⟩)) v = mkStore h b o v (some (false, 1)) h[b]? := astore_eq' Tryd.tyc36
theorem Tryd.some36 : (tyc Tryd.prog 36).isSome = true := by rw [Tryd.tyc36]; rfl
theorem Tryd.tyc37 : tyc Tryd.prog 37 = some (false, 1) := by kernel_rfl
theorem Tryd.load37 {h : AH} {b o : Nat} : aload Tryd.prog h 37 (.pointer (some ⟨b, o, none⟩)) = mkLoad o (some (false, 1)) h[b]? := aload_eq Tryd.tyc37
theorem Tryd.loadF37 {h : AH} {c : Array Value} {n : Nat} : aload Tryd.prog h 37 (fp c n) = mkLoadF c n (some (false, 1)) := aload_fp Tryd.tyc37
theorem Tryd.store37 {h : AH} {b o : Nat} {v : Value} : astore Tryd.prog h 37 (.pointer (some ⟨b, o, none⟩)) v = mkStore h b o v (some (false, 1)) h[b]? := astore_eq' Tryd.tyc37
theorem Tryd.some37 : (tyc Tryd.prog 37).isSome = true := by rw [Tryd.tyc37]; rfl
theorem Tryd.tyc38 : tyc Tryd.prog 38 = some (true, 64) := by kernel_rfl
theorem Tryd.load38 {h : AH} {b o : Nat} : aload Tryd.prog h 38 (.pointer (some ⟨b, o, none⟩)) = mkLoad o (some (true, 64)) h[b]? := aload_eq Tryd.tyc38
theorem Tryd.loadF38 {h : AH} {c : Array Value} {n : Nat} : aload Tryd.prog h 38 (fp c n) = mkLoadF c n (some (true, 64)) := aload_fp Tryd.tyc38
theorem Tryd.store38 {h : AH} {b o : Nat} {v : Value} : astore Tryd.prog h 38 (.pointer (some ⟨b, o, none⟩)) v = mkStore h b o v (some (true, 64)) h[b]? := astore_eq' Tryd.tyc38
theorem Tryd.some38 : (tyc Tryd.prog 38).isSome = true := by rw [Tryd.tyc38]; rfl
theorem Tryd.tyc39 : tyc Tryd.prog 39 = some (false, 1) := by kernel_rfl
theorem Tryd.load39 {h : AH} {b o : Nat} : aload Tryd.prog h 39 (.pointer (some ⟨b, o, none⟩)) = mkLoad o (some (false, 1)) h[b]? := aload_eq Tryd.tyc39
theorem Tryd.loadF39 {h : AH} {c : Array Value} {n : Nat} : aload Tryd.prog h 39 (fp c n) = mkLoadF c n (some (false, 1)) := aload_fp Tryd.tyc39
theorem Tryd.store39 {h : AH} {b o : Nat} {v : Value} : astore Tryd.prog h 39 (.pointer (some ⟨b, o, none⟩)) v = mkStore h b o v (some (false, 1)) h[b]? := astore_eq' Tryd.tyc39
theorem Tryd.some39 : (tyc Tryd.prog 39).isSome = true := by rw [Tryd.tyc39]; rfl
theorem Tryd.tyc40 : tyc Tryd.prog 40 = some (false, 1) := by kernel_rfl
theorem Tryd.load40 {h : AH} {b o : Nat} : aload Tryd.prog h 40 (.pointer (some ⟨b, o, none⟩)) = mkLoad o (some (false, 1)) h[b]? := aload_eq Tryd.tyc40
theorem Tryd.loadF40 {h : AH} {c : Array Value} {n : Nat} : aload Tryd.prog h 40 (fp c n) = mkLoadF c n (some (false, 1)) := aload_fp Tryd.tyc40
theorem Tryd.store40 {h : AH} {b o : Nat} {v : Value} : astore Tryd.prog h 40 (.pointer (some ⟨b, o, none⟩)) v = mkStore h b o v (some (false, 1)) h[b]? := astore_eq' Tryd.tyc40
theorem Tryd.some40 : (tyc Tryd.prog 40).isSome = true := by rw [Tryd.tyc40]; rfl
theorem Tryd.tyc41 : tyc Tryd.prog 41 = some (false, 1) := by kernel_rfl
theorem Tryd.load41 {h : AH} {b o : Nat} : aload Tryd.prog h 41 (.pointer (some ⟨b, o, none⟩)) = mkLoad o (some (false, 1)) h[b]? := aload_eq Tryd.tyc41
theorem Tryd.loadF41 {h : AH} {c : Array Value} {n : Nat} : aload Tryd.prog h 41 (fp c n) = mkLoadF c n (some (false, 1)) := aload_fp Tryd.tyc41
theorem Tryd.store41 {h : AH} {b o : Nat} {v : Value} : astore Tryd.prog h 41 (.pointer (some ⟨b, o, none⟩)) v = mkStore h b o v (some (false, 1)) h[b]? := astore_eq' Tryd.tyc41
theorem Tryd.some41 : (tyc Tryd.prog 41).isSome = true := by rw [Tryd.tyc41]; rfl
theorem Tryd.tyc42 : tyc Tryd.prog 42 = some (false, 1) := by kernel_rfl
theorem Tryd.load42 {h : AH} {b o : Nat} : aload Tryd.prog h 42 (.pointer (some ⟨b, o, none⟩)) = mkLoad o (some (false, 1)) h[b]? := aload_eq Tryd.tyc42
theorem Tryd.loadF42 {h : AH} {c : Array Value} {n : Nat} : aload Tryd.prog h 42 (fp c n) = mkLoadF c n (some (false, 1)) := aload_fp Tryd.tyc42
theorem Tryd.store42 {h : AH} {b o : Nat} {v : Value} : astore Tryd.prog h 42 (.pointer (some ⟨b, o, none⟩)) v = mkStore h b o v (some (false, 1)) h[b]? := astore_eq' Tryd.tyc42
theorem Tryd.some42 : (tyc Tryd.prog 42).isSome = true := by rw [Tryd.tyc42]; rfl
theorem Tryd.tyc43 : tyc Tryd.prog 43 = some (true, 4) := by kernel_rfl
theorem Tryd.load43 {h : AH} {b o : Nat} : aload Tryd.prog h 43 (.pointer (some ⟨b, o, none⟩)) = mkLoad o (some (true, 4)) h[b]? := aload_eq Tryd.tyc43
theorem Tryd.loadF43 {h : AH} {c : Array Value} {n : Nat} : aload Tryd.prog h 43 (fp c n) = mkLoadF c n (some (true, 4)) := aload_fp Tryd.tyc43
theorem Tryd.store43 {h : AH} {b o : Nat} {v : Value} : astore Tryd.prog h 43 (.pointer (some ⟨b, o, none⟩)) v = mkStore h b o v (some (true, 4)) h[b]? := astore_eq' Tryd.tyc43
theorem Tryd.some43 : (tyc Tryd.prog 43).isSome = true := by rw [Tryd.tyc43]; rfl
theorem Tryd.tyc44 : tyc Tryd.prog 44 = some (true, 4) := by kernel_rfl
theorem Tryd.load44 {h : AH} {b o : Nat} : aload Tryd.prog h 44 (.pointer (some ⟨b, o, none⟩)) = mkLoad o (some (true, 4)) h[b]? := aload_eq Tryd.tyc44
theorem Tryd.loadF44 {h : AH} {c : Array Value} {n : Nat} : aload Tryd.prog h 44 (fp c n) = mkLoadF c n (some (true, 4)) := aload_fp Tryd.tyc44
theorem Tryd.store44 {h : AH} {b o : Nat} {v : Value} : astore Tryd.prog h 44 (.pointer (some ⟨b, o, none⟩)) v = mkStore h b o v (some (true, 4)) h[b]? := astore_eq' Tryd.tyc44
theorem Tryd.some44 : (tyc Tryd.prog 44).isSome = true := by rw [Tryd.tyc44]; rfl
theorem Tryd.tyc45 : tyc Tryd.prog 45 = some (true, 0) := by kernel_rfl
theorem Tryd.load45 {h : AH} {b o : Nat} : aload Tryd.prog h 45 (.pointer (some ⟨b, o, none⟩)) = mkLoad o (some (true, 0)) h[b]? := aload_eq Tryd.tyc45
theorem Tryd.loadF45 {h : AH} {c : Array Value} {n : Nat} : aload Tryd.prog h 45 (fp c n) = mkLoadF c n (some (true, 0)) := aload_fp Tryd.tyc45
theorem Tryd.store45 {h : AH} {b o : Nat} {v : Value} : astore Tryd.prog h 45 (.pointer (some ⟨b, o, none⟩)) v = mkStore h b o v (some (true, 0)) h[b]? := astore_eq' Tryd.tyc45
theorem Tryd.some45 : (tyc Tryd.prog 45).isSome = true := by rw [Tryd.tyc45]; rfl
theorem Tryd.tyc46 : tyc Tryd.prog 46 = some (true, 0) := by kernel_rfl
theorem Tryd.load46 {h : AH} {b o : Nat} : aload Tryd.prog h 46 (.pointer (some ⟨b, o, none⟩)) = mkLoad o (some (true, 0)) h[b]? := aload_eq Tryd.tyc46
theorem Tryd.loadF46 {h : AH} {c : Array Value} {n : Nat} : aload Tryd.prog h 46 (fp c n) = mkLoadF c n (some (true, 0)) := aload_fp Tryd.tyc46
theorem Tryd.store46 {h : AH} {b o : Nat} {v : Value} : astore Tryd.prog h 46 (.pointer (some ⟨b, o, none⟩)) v = mkStore h b o v (some (true, 0)) h[b]? := astore_eq' Tryd.tyc46
theorem Tryd.some46 : (tyc Tryd.prog 46).isSome = true := by rw [Tryd.tyc46]; rfl
theorem Tryd.tyc47 : tyc Tryd.prog 47 = some (true, 0) := by kernel_rfl
theorem Tryd.load47 {h : AH} {b o : Nat} : aload Tryd.prog h 47 (.pointer (some ⟨b, o, none⟩)) = mkLoad o (some (true, 0)) h[b]? := aload_eq Tryd.tyc47
theorem Tryd.loadF47 {h : AH} {c : Array Value} {n : Nat} : aload Tryd.prog h 47 (fp c n) = mkLoadF c n (some (true, 0)) := aload_fp Tryd.tyc47
theorem Tryd.store47 {h : AH} {b o : Nat} {v : Value} : astore Tryd.prog h 47 (.pointer (some ⟨b, o, none⟩)) v = mkStore h b o v (some (true, 0)) h[b]? := astore_eq' Tryd.tyc47
theorem Tryd.some47 : (tyc Tryd.prog 47).isSome = true := by rw [Tryd.tyc47]; rfl
theorem Tryd.tyc48 : tyc Tryd.prog 48 = some (false, 1) := by kernel_rfl
theorem Tryd.load48 {h : AH} {b o : Nat} : aload Tryd.prog h 48 (.pointer (some ⟨b, o, none⟩)) = mkLoad o (some (false, 1)) h[b]? := aload_eq Tryd.tyc48
theorem Tryd.loadF48 {h : AH} {c : Array Value} {n : Nat} : aload Tryd.prog h 48 (fp c n) = mkLoadF c n (some (false, 1)) := aload_fp Tryd.tyc48
theorem Tryd.store48 {h : AH} {b o : Nat} {v : Value} : astore Tryd.prog h 48 (.pointer (some ⟨b, o, none⟩)) v = mkStore h b o v (some (false, 1)) h[b]? := astore_eq' Tryd.tyc48
theorem Tryd.some48 : (tyc Tryd.prog 48).isSome = true := by rw [Tryd.tyc48]; rfl
theorem Tryd.tyc49 : tyc Tryd.prog 49 = some (false, 1) := by kernel_rfl
theorem Tryd.load49 {h : AH} {b o : Nat} : aload Tryd.prog h 49 (.pointer (some ⟨b, o, none⟩)) = mkLoad o (some (false, 1)) h[b]? := aload_eq Tryd.tyc49
theorem Tryd.loadF49 {h : AH} {c : Array Value} {n : Nat} : aload Tryd.prog h 49 (fp c n) = mkLoadF c n (some (false, 1)) := aload_fp Tryd.tyc49
theorem Tryd.store49 {h : AH} {b o : Nat} {v : Value} : astore Tryd.prog h 49 (.pointer (some ⟨b, o, none⟩)) v = mkStore h b o v (some (false, 1)) h[b]? := astore_eq' Tryd.tyc49
theorem Tryd.some49 : (tyc Tryd.prog 49).isSome = true := by rw [Tryd.tyc49]; rfl
theorem Tryd.tyc50 : tyc Tryd.prog 50 = some (false, 1) := by kernel_rfl
theorem Tryd.load50 {h : AH} {b o : Nat} : aload Tryd.prog h 50 (.pointer (some ⟨b, o, none⟩)) = mkLoad o (some (false, 1)) h[b]? := aload_eq Tryd.tyc50
theorem Tryd.loadF50 {h : AH} {c : Array Value} {n : Nat} : aload Tryd.prog h 50 (fp c n) = mkLoadF c n (some (false, 1)) := aload_fp Tryd.tyc50
theorem Tryd.store50 {h : AH} {b o : Nat} {v : Value} : astore Tryd.prog h 50 (.pointer (some ⟨b, o, none⟩)) v = mkStore h b o v (some (false, 1)) h[b]? := astore_eq' Tryd.tyc50
theorem Tryd.some50 : (tyc Tryd.prog 50).isSome = true := by rw [Tryd.tyc50]; rfl
theorem Tryd.tyc51 : tyc Tryd.prog 51 = some (false, 1) := by kernel_rfl
theorem Tryd.load51 {h : AH} {b o : Nat} : aload Tryd.prog h 51 (.pointer (some ⟨b, o, none⟩)) = mkLoad o (some (false, 1)) h[b]? := aload_eq Tryd.tyc51
theorem Tryd.loadF51 {h : AH} {c : Array Value} {n : Nat} : aload Tryd.prog h 51 (fp c n) = mkLoadF c n (some (false, 1)) := aload_fp Tryd.tyc51
theorem Tryd.store51 {h : AH} {b o : Nat} {v : Value} : astore Tryd.prog h 51 (.pointer (some ⟨b, o, none⟩)) v = mkStore h b o v (some (false, 1)) h[b]? := astore_eq' Tryd.tyc51
theorem Tryd.some51 : (tyc Tryd.prog 51).isSome = true := by rw [Tryd.tyc51]; rfl
theorem Tryd.tyc52 : tyc Tryd.prog 52 = some (false, 1) := by kernel_rfl
theorem Tryd.load52 {h : AH} {b o : Nat} : aload Tryd.prog h 52 (.pointer (some ⟨b, o, none⟩)) = mkLoad o (some (false, 1)) h[b]? := aload_eq Tryd.tyc52
theorem Tryd.loadF52 {h : AH} {c : Array Value} {n : Nat} : aload Tryd.prog h 52 (fp c n) = mkLoadF c n (some (false, 1)) := aload_fp Tryd.tyc52
theorem Tryd.store52 {h : AH} {b o : Nat} {v : Value} : astore Tryd.prog h 52 (.pointer (some ⟨b, o, none⟩)) v = mkStore h b o v (some (false, 1)) h[b]? := astore_eq' Tryd.tyc52
theorem Tryd.some52 : (tyc Tryd.prog 52).isSome = true := by rw [Tryd.tyc52]; rfl
theorem Tryd.tyc53 : tyc Tryd.prog 53 = some (false, 1) := by kernel_rfl
theorem Tryd.load53 {h : AH} {b o : Nat} : aload Tryd.prog h 53 (.pointer (some ⟨b, o, none⟩)) = mkLoad o (some (false, 1)) h[b]? := aload_eq Tryd.tyc53
theorem Tryd.loadF53 {h : AH} {c : Array Value} {n : Nat} : aload Tryd.prog h 53 (fp c n) = mkLoadF c n (some (false, 1)) := aload_fp Tryd.tyc53
theorem Tryd.store53 {h : AH} {b o : Nat} {v : Value} : astore Tryd.prog h 53 (.pointer (some ⟨b, o, none⟩)) v = mkStore h b o v (some (false, 1)) h[b]? := astore_eq' Tryd.tyc53
theorem Tryd.some53 : (tyc Tryd.prog 53).isSome = true := by rw [Tryd.tyc53]; rfl
theorem Tryd.tyc54 : tyc Tryd.prog 54 = some (false, 1) := by kernel_rfl
theorem Tryd.load54 {h : AH} {b o : Nat} : aload Tryd.prog h 54 (.pointer (some ⟨b, o, none⟩)) = mkLoad o (some (false, 1)) h[b]? := aload_eq Tryd.tyc54
theorem Tryd.loadF54 {h : AH} {c : Array Value} {n : Nat} : aload Tryd.prog h 54 (fp c n) = mkLoadF c n (some (false, 1)) := aload_fp Tryd.tyc54
theorem Tryd.store54 {h : AH} {b o : Nat} {v : Value} : astore Tryd.prog h 54 (.pointer (some ⟨b, o, none⟩)) v = mkStore h b o v (some (false, 1)) h[b]? := astore_eq' Tryd.tyc54
theorem Tryd.some54 : (tyc Tryd.prog 54).isSome = true := by rw [Tryd.tyc54]; rfl
theorem Tryd.tyc55 : tyc Tryd.prog 55 = some (true, 11) := by kernel_rfl
theorem Tryd.load55 {h : AH} {b o : Nat} : aload Tryd.prog h 55 (.pointer (some ⟨b, o, none⟩)) = mkLoad o (some (true, 11)) h[b]? := aload_eq Tryd.tyc55
theorem Tryd.loadF55 {h : AH} {c : Array Value} {n : Nat} : aload Tryd.prog h 55 (fp c n) = mkLoadF c n (some (true, 11)) := aload_fp Tryd.tyc55
theorem Tryd.store55 {h : AH} {b o : Nat} {v : Value} : astore Tryd.prog h 55 (.pointer (some ⟨b, o, none⟩)) v = mkStore h b o v (some (true, 11)) h[b]? := astore_eq' Tryd.tyc55
theorem Tryd.some55 : (tyc Tryd.prog 55).isSome = true := by rw [Tryd.tyc55]; rfl
theorem Tryd.tyc56 : tyc Tryd.prog 56 = some (true, 11) := by kernel_rfl
theorem Tryd.load56 {h : AH} {b o : Nat} : aload Tryd.prog h 56 (.pointer (some ⟨b, o, none⟩)) = mkLoad o (some (true, 11)) h[b]? := aload_eq Tryd.tyc56
theorem Tryd.loadF56 {h : AH} {c : Array Value} {n : Nat} : aload Tryd.prog h 56 (fp c n) = mkLoadF c n (some (true, 11)) := aload_fp Tryd.tyc56
theorem Tryd.store56 {h : AH} {b o : Nat} {v : Value} : astore Tryd.prog h 56 (.pointer (some ⟨b, o, none⟩)) v = mkStore h b o v (some (true, 11)) h[b]? := astore_eq' Tryd.tyc56
theorem Tryd.some56 : (tyc Tryd.prog 56).isSome = true := by rw [Tryd.tyc56]; rfl
theorem Tryd.tyc57 : tyc Tryd.prog 57 = some (false, 1) := by kernel_rfl
theorem Tryd.load57 {h : AH} {b o : Nat} : aload Tryd.prog h 57 (.pointer (some ⟨b, o, none⟩)) = mkLoad o (some (false, 1)) h[b]? := aload_eq Tryd.tyc57
theorem Tryd.loadF57 {h : AH} {c : Array Value} {n : Nat} : aload Tryd.prog h 57 (fp c n) = mkLoadF c n (some (false, 1)) := aload_fp Tryd.tyc57
theorem Tryd.store57 {h : AH} {b o : Nat} {v : Value} : astore Tryd.prog h 57 (.pointer (some ⟨b, o, none⟩)) v = mkStore h b o v (some (false, 1)) h[b]? := astore_eq' Tryd.tyc57
theorem Tryd.some57 : (tyc Tryd.prog 57).isSome = true := by rw [Tryd.tyc57]; rfl
theorem Tryd.fld7_0 : fld Tryd.prog 7 0 = some (0, false, 1) := by kernel_rfl
theorem Tryd.fieldAddr7_0 {b o : Nat} : afieldAddr Tryd.prog 7 (.pointer (some ⟨b, o, none⟩)) 0 = mkFieldAddr b o (some (0, false, 1)) := afieldAddr_eq' Tryd.fld7_0
theorem Tryd.fieldAddrF7_0 {c : Array Value} {n : Nat} : afieldAddr Tryd.prog 7 (fp c n) 0 = mkFieldAddrF c n (some (0, false, 1)) := afieldAddr_fp Tryd.fld7_0
theorem Tryd.field7_0 {c : Array Value} : afield Tryd.prog 7 (.agg c) 0 = mkField c (some (0, false, 1)) := afield_eq' Tryd.fld7_0
theorem Tryd.fld7_1 : fld Tryd.prog 7 1 = some (1, false, 1) := by kernel_rfl
theorem Tryd.fieldAddr7_1 {b o : Nat} : afieldAddr Tryd.prog 7 (.pointer (some ⟨b, o, none⟩)) 1 = mkFieldAddr b o (some (1, false, 1)) := afieldAddr_eq' Tryd.fld7_1
theorem Tryd.fieldAddrF7_1 {c : Array Value} {n : Nat} : afieldAddr Tryd.prog 7 (fp c n) 1 = mkFieldAddrF c n (some (1, false, 1)) := afieldAddr_fp Tryd.fld7_1
theorem Tryd.field7_1 {c : Array Value} : afield Tryd.prog 7 (.agg c) 1 = mkField c (some (1, false, 1)) := afield_eq' Tryd.fld7_1
theorem Tryd.fld7_2 : fld Tryd.prog 7 2 = some (2, false, 1) := by kernel_rfl
theorem Tryd.fieldAddr7_2 {b o : Nat} : afieldAddr Tryd.prog 7 (.pointer (some ⟨b, o, none⟩)) 2 = mkFieldAddr b o (some (2, false, 1)) := afieldAddr_eq' Tryd.fld7_2
theorem Tryd.fieldAddrF7_2 {c : Array Value} {n : Nat} : afieldAddr Tryd.prog 7 (fp c n) 2 = mkFieldAddrF c n (some (2, false, 1)) := afieldAddr_fp Tryd.fld7_2
theorem Tryd.field7_2 {c : Array Value} : afield Tryd.prog 7 (.agg c) 2 = mkField c (some (2, false, 1)) := afield_eq' Tryd.fld7_2
theorem Tryd.fld7_3 : fld Tryd.prog 7 3 = some (3, false, 1) := by kernel_rfl
theorem Tryd.fieldAddr7_3 {b o : Nat} : afieldAddr Tryd.prog 7 (.pointer (some ⟨b, o, none⟩)) 3 = mkFieldAddr b o (some (3, false, 1)) := afieldAddr_eq' Tryd.fld7_3
theorem Tryd.fieldAddrF7_3 {c : Array Value} {n : Nat} : afieldAddr Tryd.prog 7 (fp c n) 3 = mkFieldAddrF c n (some (3, false, 1)) := afieldAddr_fp Tryd.fld7_3
theorem Tryd.field7_3 {c : Array Value} : afield Tryd.prog 7 (.agg c) 3 = mkField c (some (3, false, 1)) := afield_eq' Tryd.fld7_3
theorem Tryd.fld8_0 : fld Tryd.prog 8 0 = some (0, false, 1) := by kernel_rfl
theorem Tryd.fieldAddr8_0 {b o : Nat} : afieldAddr Tryd.prog 8 (.pointer (some ⟨b, o, none⟩)) 0 = mkFieldAddr b o (some (0, false, 1)) := afieldAddr_eq' Tryd.fld8_0
theorem Tryd.fieldAddrF8_0 {c : Array Value} {n : Nat} : afieldAddr Tryd.prog 8 (fp c n) 0 = mkFieldAddrF c n (some (0, false, 1)) := afieldAddr_fp Tryd.fld8_0
theorem Tryd.field8_0 {c : Array Value} : afield Tryd.prog 8 (.agg c) 0 = mkField c (some (0, false, 1)) := afield_eq' Tryd.fld8_0
theorem Tryd.fld8_1 : fld Tryd.prog 8 1 = some (1, false, 1) := by kernel_rfl
theorem Tryd.fieldAddr8_1 {b o : Nat} : afieldAddr Tryd.prog 8 (.pointer (some ⟨b, o, none⟩)) 1 = mkFieldAddr b o (some (1, false, 1)) := afieldAddr_eq' Tryd.fld8_1
theorem Tryd.fieldAddrF8_1 {c : Array Value} {n : Nat} : afieldAddr Tryd.prog 8 (fp c n) 1 = mkFieldAddrF c n (some (1, false, 1)) := afieldAddr_fp Tryd.fld8_1
theorem Tryd.field8_1 {c : Array Value} : afield Tryd.prog 8 (.agg c) 1 = mkField c (some (1, false, 1)) := afield_eq' Tryd.fld8_1
theorem Tryd.fld8_2 : fld Tryd.prog 8 2 = some (2, false, 1) := by kernel_rfl
theorem Tryd.fieldAddr8_2 {b o : Nat} : afieldAddr Tryd.prog 8 (.pointer (some ⟨b, o, none⟩)) 2 = mkFieldAddr b o (some (2, false, 1)) := afieldAddr_eq' Tryd.fld8_2
theorem Tryd.fieldAddrF8_2 {c : Array Value} {n : Nat} : afieldAddr Tryd.prog 8 (fp c n) 2 = mkFieldAddrF c n (some (2, false, 1)) := afieldAddr_fp Tryd.fld8_2
theorem Tryd.field8_2 {c : Array Value} : afield Tryd.prog 8 (.agg c) 2 = mkField c (some (2, false, 1)) := afield_eq' Tryd.fld8_2
theorem Tryd.fld8_3 : fld Tryd.prog 8 3 = some (3, false, 1) := by kernel_rfl
theorem Tryd.fieldAddr8_3 {b o : Nat} : afieldAddr Tryd.prog 8 (.pointer (some ⟨b, o, none⟩)) 3 = mkFieldAddr b o (some (3, false, 1)) := afieldAddr_eq' Tryd.fld8_3
theorem Tryd.fieldAddrF8_3 {c : Array Value} {n : Nat} : afieldAddr Tryd.prog 8 (fp c n) 3 = mkFieldAddrF c n (some (3, false, 1)) := afieldAddr_fp Tryd.fld8_3
theorem Tryd.field8_3 {c : Array Value} : afield Tryd.prog 8 (.agg c) 3 = mkField c (some (3, false, 1)) := afield_eq' Tryd.fld8_3
theorem Tryd.fld13_0 : fld Tryd.prog 13 0 = some (0, false, 1) := by kernel_rfl
theorem Tryd.fieldAddr13_0 {b o : Nat} : afieldAddr Tryd.prog 13 (.pointer (some ⟨b, o, none⟩)) 0 = mkFieldAddr b o (some (0, false, 1)) := afieldAddr_eq' Tryd.fld13_0
theorem Tryd.fieldAddrF13_0 {c : Array Value} {n : Nat} : afieldAddr Tryd.prog 13 (fp c n) 0 = mkFieldAddrF c n (some (0, false, 1)) := afieldAddr_fp Tryd.fld13_0
theorem Tryd.field13_0 {c : Array Value} : afield Tryd.prog 13 (.agg c) 0 = mkField c (some (0, false, 1)) := afield_eq' Tryd.fld13_0
theorem Tryd.fld13_1 : fld Tryd.prog 13 1 = some (1, false, 1) := by kernel_rfl
theorem Tryd.fieldAddr13_1 {b o : Nat} : afieldAddr Tryd.prog 13 (.pointer (some ⟨b, o, none⟩)) 1 = mkFieldAddr b o (some (1, false, 1)) := afieldAddr_eq' Tryd.fld13_1
theorem Tryd.fieldAddrF13_1 {c : Array Value} {n : Nat} : afieldAddr Tryd.prog 13 (fp c n) 1 = mkFieldAddrF c n (some (1, false, 1)) := afieldAddr_fp Tryd.fld13_1
theorem Tryd.field13_1 {c : Array Value} : afield Tryd.prog 13 (.agg c) 1 = mkField c (some (1, false, 1)) := afield_eq' Tryd.fld13_1
theorem Tryd.fld14_0 : fld Tryd.prog 14 0 = some (0, false, 1) := by kernel_rfl
theorem Tryd.fieldAddr14_0 {b o : Nat} : afieldAddr Tryd.prog 14 (.pointer (some ⟨b, o, none⟩)) 0 = mkFieldAddr b o (some (0, false, 1)) := afieldAddr_eq' Tryd.fld14_0
theorem Tryd.fieldAddrF14_0 {c : Array Value} {n : Nat} : afieldAddr Tryd.prog 14 (fp c n) 0 = mkFieldAddrF c n (some (0, false, 1)) := afieldAddr_fp Tryd.fld14_0
theorem Tryd.field14_0 {c : Array Value} : afield Tryd.prog 14 (.agg c) 0 = mkField c (some (0, false, 1)) := afield_eq' Tryd.fld14_0
theorem Tryd.fld14_1 : fld Tryd.prog 14 1 = some (1, false, 1) := by kernel_rfl
theorem Tryd.fieldAddr14_1 {b o : Nat} : afieldAddr Tryd.prog 14 (.pointer (some ⟨b, o, none⟩)) 1 = mkFieldAddr b o (some (1, false, 1)) := afieldAddr_eq' Tryd.fld14_1
theorem Tryd.fieldAddrF14_1 {c : Array Value} {n : Nat} : afieldAddr Tryd.prog 14 (fp c n) 1 = mkFieldAddrF c n (some (1, false, 1)) := afieldAddr_fp Tryd.fld14_1
theorem Tryd.field14_1 {c : Array Value} : afield Tryd.prog 14 (.agg c) 1 = mkField c (some (1, false, 1)) := afield_eq' Tryd.fld14_1
theorem Tryd.fld18_0 : fld Tryd.prog 18 0 = some (0, false, 1) := by kernel_rfl
theorem Tryd.fieldAddr18_0 {b o : Nat} : afieldAddr Tryd.prog 18 (.pointer (some ⟨b, o, none⟩)) 0 = mkFieldAddr b o (some (0, false, 1)) := afieldAddr_eq' Tryd.fld18_0
theorem Tryd.fieldAddrF18_0 {c : Array Value} {n : Nat} : afieldAddr Tryd.prog 18 (fp c n) 0 = mkFieldAddrF c n (some (0, false, 1)) := afieldAddr_fp Tryd.fld18_0
theorem Tryd.field18_0 {c : Array Value} : afield Tryd.prog 18 (.agg c) 0 = mkField c (some (0, false, 1)) := afield_eq' Tryd.fld18_0
theorem Tryd.fld19_0 : fld Tryd.prog 19 0 = some (0, false, 1) := by kernel_rfl
theorem Tryd.fieldAddr19_0 {b o : Nat} : afieldAddr Tryd.prog 19 (.pointer (some ⟨b, o, none⟩)) 0 = mkFieldAddr b o (some (0, false, 1)) := afieldAddr_eq' Tryd.fld19_0
theorem Tryd.fieldAddrF19_0 {c : Array Value} {n : Nat} : afieldAddr Tryd.prog 19 (fp c n) 0 = mkFieldAddrF c n (some (0, false, 1)) := afieldAddr_fp Tryd.fld19_0
theorem Tryd.field19_0 {c : Array Value} : afield Tryd.prog 19 (.agg c) 0 = mkField c (some (0, false, 1)) := afield_eq' Tryd.fld19_0
theorem Tryd.fld43_0 : fld Tryd.prog 43 0 = some (0, false, 1) := by kernel_rfl
theorem Tryd.fieldAddr43_0 {b o : Nat} : afieldAddr Tryd.prog 43 (.pointer (some ⟨b, o, none⟩)) 0 = mkFieldAddr b o (some (0, false, 1)) := afieldAddr_eq' Tryd.fld43_0
theorem Tryd.fieldAddrF43_0 {c : Array Value} {n : Nat} : afieldAddr Tryd.prog 43 (fp c n) 0 = mkFieldAddrF c n (some (0, false, 1)) := afieldAddr_fp Tryd.fld43_0
theorem Tryd.field43_0 {c : Array Value} : afield Tryd.prog 43 (.agg c) 0 = mkField c (some (0, false, 1)) := afield_eq' Tryd.fld43_0
theorem Tryd.fld43_1 : fld Tryd.prog 43 1 = some (1, false, 1) := by kernel_rfl
theorem Tryd.fieldAddr43_1 {b o : Nat} : afieldAddr Tryd.prog 43 (.pointer (some ⟨b, o, none⟩)) 1 = mkFieldAddr b o (some (1, false, 1)) := afieldAddr_eq' Tryd.fld43_1
theorem Tryd.fieldAddrF43_1 {c : Array Value} {n : Nat} : afieldAddr Tryd.prog 43 (fp c n) 1 = mkFieldAddrF c n (some (1, false, 1)) := afieldAddr_fp Tryd.fld43_1
theorem Tryd.field43_1 {c : Array Value} : afield Tryd.prog 43 (.agg c) 1 = mkField c (some (1, false, 1)) := afield_eq' Tryd.fld43_1
theorem Tryd.fld43_2 : fld Tryd.prog 43 2 = some (2, false, 1) := by kernel_rfl
theorem Tryd.fieldAddr43_2 {b o : Nat} : afieldAddr Tryd.prog 43 (.pointer (some ⟨b, o, none⟩)) 2 = mkFieldAddr b o (some (2, false, 1)) := afieldAddr_eq' Tryd.fld43_2
theorem Tryd.fieldAddrF43_2 {c : Array Value} {n : Nat} : afieldAddr Tryd.prog 43 (fp c n) 2 = mkFieldAddrF c n (some (2, false, 1)) := afieldAddr_fp Tryd.fld43_2
theorem Tryd.field43_2 {c : Array Value} : afield Tryd.prog 43 (.agg c) 2 = mkField c (some (2, false, 1)) := afield_eq' Tryd.fld43_2
theorem Tryd.fld43_3 : fld Tryd.prog 43 3 = some (3, false, 1) := by kernel_rfl
theorem Tryd.fieldAddr43_3 {b o : Nat} : afieldAddr Tryd.prog 43 (.pointer (some ⟨b, o, none⟩)) 3 = mkFieldAddr b o (some (3, false, 1)) := afieldAddr_eq' Tryd.fld43_3
theorem Tryd.fieldAddrF43_3 {c : Array Value} {n : Nat} : afieldAddr Tryd.prog 43 (fp c n) 3 = mkFieldAddrF c n (some (3, false, 1)) := afieldAddr_fp Tryd.fld43_3
theorem Tryd.field43_3 {c : Array Value} : afield Tryd.prog 43 (.agg c) 3 = mkField c (some (3, false, 1)) := afield_eq' Tryd.fld43_3
theorem Tryd.fld44_0 : fld Tryd.prog 44 0 = some (0, false, 1) := by kernel_rfl
theorem Tryd.fieldAddr44_0 {b o : Nat} : afieldAddr Tryd.prog 44 (.pointer (some ⟨b, o, none⟩)) 0 = mkFieldAddr b o (some (0, false, 1)) := afieldAddr_eq' Tryd.fld44_0
theorem Tryd.fieldAddrF44_0 {c : Array Value} {n : Nat} : afieldAddr Tryd.prog 44 (fp c n) 0 = mkFieldAddrF c n (some (0, false, 1)) := afieldAddr_fp Tryd.fld44_0
theorem Tryd.field44_0 {c : Array Value} : afield Tryd.prog 44 (.agg c) 0 = mkField c (some (0, false, 1)) := afield_eq' Tryd.fld44_0
theorem Tryd.fld44_1 : fld Tryd.prog 44 1 = some (1, false, 1) := by kernel_rfl
theorem Tryd.fieldAddr44_1 {b o : Nat} : afieldAddr Tryd.prog 44 (.pointer (some ⟨b, o, none⟩)) 1 = mkFieldAddr b o (some (1, false, 1)) := afieldAddr_eq' Tryd.fld44_1
theorem Tryd.fieldAddrF44_1 {c : Array Value} {n : Nat} : afieldAddr Tryd.prog 44 (fp c n) 1 = mkFieldAddrF c n (some (1, false, 1)) := afieldAddr_fp Tryd.fld44_1
theorem Tryd.field44_1 {c : Array Value} : afield Tryd.prog 44 (.agg c) 1 = mkField c (some (1, false, 1)) := afield_eq' Tryd.fld44_1
theorem Tryd.fld44_2 : fld Tryd.prog 44 2 = some (2, false, 1) := by kernel_rfl
theorem Tryd.fieldAddr44_2 {b o : Nat} : afieldAddr Tryd.prog 44 (.pointer (some ⟨b, o, none⟩)) 2 = mkFieldAddr b o (some (2, false, 1)) := afieldAddr_eq' Tryd.fld44_2
theorem Tryd.fieldAddrF44_2 {c : Array Value} {n : Nat} : afieldAddr Tryd.prog 44 (fp c n) 2 = mkFieldAddrF c n (some (2, false, 1)) := afieldAddr_fp Tryd.fld44_2
theorem Tryd.field44_2 {c : Array Value} : afield Tryd.prog 44 (.agg c) 2 = mkField c (some (2, false, 1)) := afield_eq' Tryd.fld44_2
theorem Tryd.fld44_3 : fld Tryd.prog 44 3 = some (3, false, 1) := by kernel_rfl
theorem Tryd.fieldAddr44_3 {b o : Nat} : afieldAddr Tryd.prog 44 (.pointer (some ⟨b, o, none⟩)) 3 = mkFieldAddr b o (some (3, false, 1)) := afieldAddr_eq' Tryd.fld44_3
theorem Tryd.fieldAddrF44_3 {c : Array Value} {n : Nat} : afieldAddr Tryd.prog 44 (fp c n) 3 = mkFieldAddrF c n (some (3, false, 1)) := afieldAddr_fp Tryd.fld44_3
theorem Tryd.field44_3 {c : Array Value} : afield Tryd.prog 44 (.agg c) 3 = mkField c (some (3, false, 1)) := afield_eq' Tryd.fld44_3
theorem Tryd.fld46_0 : fld Tryd.prog 46 0 = some (0, true, 0) := by kernel_rfl
theorem Tryd.fieldAddr46_0 {b o : Nat} : afieldAddr Tryd.prog 46 (.pointer (some ⟨b, o, none⟩)) 0 = mkFieldAddr b o (some (0, true, 0)) := afieldAddr_eq' Tryd.fld46_0
theorem Tryd.fieldAddrF46_0 {c : Array Value} {n : Nat} : afieldAddr Tryd.prog 46 (fp c n) 0 = mkFieldAddrF c n (some (0, true, 0)) := afieldAddr_fp Tryd.fld46_0
theorem Tryd.field46_0 {c : Array Value} : afield Tryd.prog 46 (.agg c) 0 = mkField c (some (0, true, 0)) := afield_eq' Tryd.fld46_0
theorem Tryd.fld47_0 : fld Tryd.prog 47 0 = some (0, true, 0) := by kernel_rfl
theorem Tryd.fieldAddr47_0 {b o : Nat} : afieldAddr Tryd.prog 47 (.pointer (some ⟨b, o, none⟩)) 0 = mkFieldAddr b o (some (0, true, 0)) := afieldAddr_eq' Tryd.fld47_0
theorem Tryd.fieldAddrF47_0 {c : Array Value} {n : Nat} : afieldAddr Tryd.prog 47 (fp c n) 0 = mkFieldAddrF c n (some (0, true, 0)) := afieldAddr_fp Tryd.fld47_0
theorem Tryd.field47_0 {c : Array Value} : afield Tryd.prog 47 (.agg c) 0 = mkField c (some (0, true, 0)) := afield_eq' Tryd.fld47_0
theorem Tryd.fld55_0 : fld Tryd.prog 55 0 = some (0, false, 1) := by kernel_rfl
theorem Tryd.fieldAddr55_0 {b o : Nat} : afieldAddr Tryd.prog 55 (.pointer (some ⟨b, o, none⟩)) 0 = mkFieldAddr b o (some (0, false, 1)) := afieldAddr_eq' Tryd.fld55_0
theorem Tryd.fieldAddrF55_0 {c : Array Value} {n : Nat} : afieldAddr Tryd.prog 55 (fp c n) 0 = mkFieldAddrF c n (some (0, false, 1)) := afieldAddr_fp Tryd.fld55_0
theorem Tryd.field55_0 {c : Array Value} : afield Tryd.prog 55 (.agg c) 0 = mkField c (some (0, false, 1)) := afield_eq' Tryd.fld55_0
theorem Tryd.fld55_1 : fld Tryd.prog 55 1 = some (1, false, 1) := by kernel_rfl
theorem Tryd.fieldAddr55_1 {b o : Nat} : afieldAddr Tryd.prog 55 (.pointer (some ⟨b, o, none⟩)) 1 = mkFieldAddr b o (some (1, false, 1)) := afieldAddr_eq' Tryd.fld55_1
theorem Tryd.fieldAddrF55_1 {c : Array Value} {n : Nat} : afieldAddr Tryd.prog 55 (fp c n) 1 = mkFieldAddrF c n (some (1, false, 1)) := afieldAddr_fp Tryd.fld55_1
theorem Tryd.field55_1 {c : Array Value} : afield Tryd.prog 55 (.agg c) 1 = mkField c (some (1, false, 1)) := afield_eq' Tryd.fld55_1
theorem Tryd.fld55_2 : fld Tryd.prog 55 2 = some (2, false, 1) := by kernel_rfl
theorem Tryd.fieldAddr55_2 {b o : Nat} : afieldAddr Tryd.prog 55 (.pointer (some ⟨b, o, none⟩)) 2 = mkFieldAddr b o (some (2, false, 1)) := afieldAddr_eq' Tryd.fld55_2
theorem Tryd.fieldAddrF55_2 {c : Array Value} {n : Nat} : afieldAddr Tryd.prog 55 (fp c n) 2 = mkFieldAddrF c n (some (2, false, 1)) := afieldAddr_fp Tryd.fld55_2
theorem Tryd.field55_2 {c : Array Value} : afield Tryd.prog 55 (.agg c) 2 = mkField c (some (2, false, 1)) := afield_eq' Tryd.fld55_2
theorem Tryd.fld55_3 : fld Tryd.prog 55 3 = some (3, false, 1) := by kernel_rfl
theorem Tryd.fieldAddr55_3 {b o : Nat} : afieldAddr Tryd.prog 55 (.pointer (some ⟨b, o, none⟩)) 3 = mkFieldAddr b o (some (3, false, 1)) := afieldAddr_eq' Tryd.fld55_3
theorem Tryd.fieldAddrF55_3 {c : Array Value} {n : Nat} : afieldAddr Tryd.prog 55 (fp c n) 3 = mkFieldAddrF c n (some (3, false, 1)) := afieldAddr_fp Tryd.fld55_3
theorem Tryd.field55_3 {c : Array Value} : afield Tryd.prog 55 (.agg c) 3 = mkField c (some (3, false, 1)) := afield_eq' Tryd.fld55_3
theorem Tryd.fld55_4 : fld Tryd.prog 55 4 = some (4, false, 1) := by kernel_rfl
theorem Tryd.fieldAddr55_4 {b o : Nat} : afieldAddr Tryd.prog 55 (.pointer (some ⟨b, o, none⟩)) 4 = mkFieldAddr b o (some (4, false, 1)) := afieldAddr_eq' Tryd.fld55_4
theorem Tryd.fieldAddrF55_4 {c : Array Value} {n : Nat} : afieldAddr Tryd.prog 55 (fp c n) 4 = mkFieldAddrF c n (some (4, false, 1)) := afieldAddr_fp Tryd.fld55_4
theorem Tryd.field55_4 {c : Array Value} : afield Tryd.prog 55 (.agg c) 4 = mkField c (some (4, false, 1)) := afield_eq' Tryd.fld55_4
theorem Tryd.fld55_5 : fld Tryd.prog 55 5 = some (5, false, 1) := by kernel_rfl
theorem Tryd.fieldAddr55_5 {b o : Nat} : afieldAddr Tryd.prog 55 (.pointer (some ⟨b, o, none⟩)) 5 = mkFieldAddr b o (some (5, false, 1)) := afieldAddr_eq' Tryd.fld55_5
theorem Tryd.fieldAddrF55_5 {c : Array Value} {n : Nat} : afieldAddr Tryd.prog 55 (fp c n) 5 = mkFieldAddrF c n (some (5, false, 1)) := afieldAddr_fp Tryd.fld55_5
theorem Tryd.field55_5 {c : Array Value} : afield Tryd.prog 55 (.agg c) 5 = mkField c (some (5, false, 1)) := afield_eq' Tryd.fld55_5
theorem Tryd.fld55_6 : fld Tryd.prog 55 6 = some (6, false, 1) := by kernel_rfl
theorem Tryd.fieldAddr55_6 {b o : Nat} : afieldAddr Tryd.prog 55 (.pointer (some ⟨b, o, none⟩)) 6 = mkFieldAddr b o (some (6, false, 1)) := afieldAddr_eq' Tryd.fld55_6
theorem Tryd.fieldAddrF55_6 {c : Array Value} {n : Nat} : afieldAddr Tryd.prog 55 (fp c n) 6 = mkFieldAddrF c n (some (6, false, 1)) := afieldAddr_fp Tryd.fld55_6
theorem Tryd.field55_6 {c : Array Value} : afield Tryd.prog 55 (.agg c) 6 = mkField c (some (6, false, 1)) := afield_eq' Tryd.fld55_6
theorem Tryd.fld55_7 : fld Tryd.prog 55 7 = some (7, false, 1) := by kernel_rfl
theorem Tryd.fieldAddr55_7 {b o : Nat} : afieldAddr Tryd.prog 55 (.pointer (some ⟨b, o, none⟩)) 7 = mkFieldAddr b o (some (7, false, 1)) := afieldAddr_eq' Tryd.fld55_7
theorem Tryd.fieldAddrF55_7 {c : Array Value} {n : Nat} : afieldAddr Tryd.prog 55 (fp c n) 7 = mkFieldAddrF c n (some (7, false, 1)) := afieldAddr_fp Tryd.fld55_7
theorem Tryd.field55_7 {c : Array Value} : afield Tryd.prog 55 (.agg c) 7 = mkField c (some (7, false, 1)) := afield_eq' Tryd.fld55_7
theorem Tryd.fld55_8 : fld Tryd.prog 55 8 = some (8, false, 1) := by kernel_rfl
theorem Tryd.fieldAddr55_8 {b o : Nat} : afieldAddr Tryd.prog 55 (.pointer (some ⟨b, o, none⟩)) 8 = mkFieldAddr b o (some (8, false, 1)) := afieldAddr_eq' Tryd.fld55_8
theorem Tryd.fieldAddrF55_8 {c : Array Value} {n : Nat} : afieldAddr Tryd.prog 55 (fp c n) 8 = mkFieldAddrF c n (some (8, false, 1)) := afieldAddr_fp Tryd.fld55_8
theorem Tryd.field55_8 {c : Array Value} : afield Tryd.prog 55 (.agg c) 8 = mkField c (some (8, false, 1)) := afield_eq' Tryd.fld55_8
theorem Tryd.fld55_9 : fld Tryd.prog 55 9 = some (9, false, 1) := by kernel_rfl
theorem Tryd.fieldAddr55_9 {b o : Nat} : afieldAddr Tryd.prog 55 (.pointer (some ⟨b, o, none⟩)) 9 = mkFieldAddr b o (some (9, false, 1)) := afieldAddr_eq' Tryd.fld55_9
theorem Tryd.fieldAddrF55_9 {c : Array Value} {n : Nat} : afieldAddr Tryd.prog 55 (fp c n) 9 = mkFieldAddrF c n (some (9, false, 1)) := afieldAddr_fp Tryd.fld55_9
theorem Tryd.field55_9 {c : Array Value} : afield Tryd.prog 55 (.agg c) 9 = mkField c (some (9, false, 1)) := afield_eq' Tryd.fld55_9
theorem Tryd.fld55_10 : fld Tryd.prog 55 10 = some (10, false, 1) := by kernel_rfl
theorem Tryd.fieldAddr55_10 {b o : Nat} : afieldAddr Tryd.prog 55 (.pointer (some ⟨b, o, none⟩)) 10 = mkFieldAddr b o (some (10, false, 1)) := afieldAddr_eq' Tryd.fld55_10
theorem Tryd.fieldAddrF55_10 {c : Array Value} {n : Nat} : afieldAddr Tryd.prog 55 (fp c n) 10 = mkFieldAddrF c n (some (10, false, 1)) := afieldAddr_fp Tryd.fld55_10
theorem Tryd.field55_10 {c : Array Value} : afield Tryd.prog 55 (.agg c) 10 = mkField c (some (10, false, 1)) := afield_eq' Tryd.fld55_10
theorem Tryd.fld56_0 : fld Tryd.prog 56 0 = some (0, false, 1) := by kernel_rfl
theorem Tryd.fieldAddr56_0 {b o : Nat} : afieldAddr Tryd.prog 56 (.pointer (some ⟨b, o, none⟩)) 0 = mkFieldAddr b o (some (0, false, 1)) := afieldAddr_eq' Tryd.fld56_0
theorem Tryd.fieldAddrF56_0 {c : Array Value} {n : Nat} : afieldAddr Tryd.prog 56 (fp c n) 0 = mkFieldAddrF c n (some (0, false, 1)) := afieldAddr_fp Tryd.fld56_0
theorem Tryd.field56_0 {c : Array Value} : afield Tryd.prog 56 (.agg c) 0 = mkField c (some (0, false, 1)) := afield_eq' Tryd.fld56_0
theorem Tryd.fld56_1 : fld Tryd.prog 56 1 = some (1, false, 1) := by kernel_rfl
theorem Tryd.fieldAddr56_1 {b o : Nat} : afieldAddr Tryd.prog 56 (.pointer (some ⟨b, o, none⟩)) 1 = mkFieldAddr b o (some (1, false, 1)) := afieldAddr_eq' Tryd.fld56_1
theorem Tryd.fieldAddrF56_1 {c : Array Value} {n : Nat} : afieldAddr Tryd.prog 56 (fp c n) 1 = mkFieldAddrF c n (some (1, false, 1)) := afieldAddr_fp Tryd.fld56_1
theorem Tryd.field56_1 {c : Array Value} : afield Tryd.prog 56 (.agg c) 1 = mkField c (some (1, false, 1)) := afield_eq' Tryd.fld56_1
theorem Tryd.fld56_2 : fld Tryd.prog 56 2 = some (2, false, 1) := by kernel_rfl
theorem Tryd.fieldAddr56_2 {b o : Nat} : afieldAddr Tryd.prog 56 (.pointer (some ⟨b, o, none⟩)) 2 = mkFieldAddr b o (some (2, false, 1)) := afieldAddr_eq' Tryd.fld56_2
theorem Tryd.fieldAddrF56_2 {c : Array Value} {n : Nat} : afieldAddr Tryd.prog 56 (fp c n) 2 = mkFieldAddrF c n (some (2, false, 1)) := afieldAddr_fp Tryd.fld56_2
theorem Tryd.field56_2 {c : Array Value} : afield Tryd.prog 56 (.agg c) 2 = mkField c (some (2, false, 1)) := afield_eq' Tryd.fld56_2
theorem Tryd.fld56_3 : fld Tryd.prog 56 3 = some (3, false, 1) := by kernel_rfl
theorem Tryd.fieldAddr56_3 {b o : Nat} : afieldAddr Tryd.prog 56 (.pointer (some ⟨b, o, none⟩)) 3 = mkFieldAddr b o (some (3, false, 1)) := afieldAddr_eq' Tryd.fld56_3
theorem Tryd.fieldAddrF56_3 {c : Array Value} {n : Nat} : afieldAddr Tryd.prog 56 (fp c n) 3 = mkFieldAddrF c n (some (3, false, 1)) := afieldAddr_fp Tryd.fld56_3
theorem Tryd.field56_3 {c : Array Value} : afield Tryd.prog 56 (.agg c) 3 = mkField c (some (3, false, 1)) := afield_eq' Tryd.fld56_3
theorem Tryd.fld56_4 : fld Tryd.prog 56 4 = some (4, false, 1) := by kernel_rfl
theorem Tryd.fieldAddr56_4 {b o : Nat} : afieldAddr Tryd.prog 56 (.pointer (some ⟨b, o, none⟩)) 4 = mkFieldAddr b o (some (4, false, 1)) := afieldAddr_eq' Tryd.fld56_4
theorem Tryd.fieldAddrF56_4 {c : Array Value} {n : Nat} : afieldAddr Tryd.prog 56 (fp c n) 4 = mkFieldAddrF c n (some (4, false, 1)) := afieldAddr_fp Tryd.fld56_4
theorem Tryd.field56_4 {c : Array Value} : afield Tryd.prog 56 (.agg c) 4 = mkField c (some (4, false, 1)) := afield_eq' Tryd.fld56_4
theorem Tryd.fld56_5 : fld Tryd.prog 56 5 = some (5, false, 1) := by kernel_rfl
theorem Tryd.fieldAddr56_5 {b o : Nat} : afieldAddr Tryd.prog 56 (.pointer (some ⟨b, o, none⟩)) 5 = mkFieldAddr b o (some (5, false, 1)) := afieldAddr_eq' Tryd.fld56_5
theorem Tryd.fieldAddrF56_5 {c : Array Value} {n : Nat} : afieldAddr Tryd.prog 56 (fp c n) 5 = mkFieldAddrF c n (some (5, false, 1)) := afieldAddr_fp Tryd.fld56_5
theorem Tryd.field56_5 {c : Array Value} : afield Tryd.prog 56 (.agg c) 5 = mkField c (some (5, false, 1)) := afield_eq' Tryd.fld56_5
theorem Tryd.fld56_6 : fld Tryd.prog 56 6 = some (6, false, 1) := by kernel_rfl
theorem Tryd.fieldAddr56_6 {b o : Nat} : afieldAddr Tryd.prog 56 (.pointer (some ⟨b, o, none⟩)) 6 = mkFieldAddr b o (some (6, false, 1)) := afieldAddr_eq' Tryd.fld56_6
theorem Tryd.fieldAddrF56_6 {c : Array Value} {n : Nat} : afieldAddr Tryd.prog 56 (fp c n) 6 = mkFieldAddrF c n (some (6, false, 1)) := afieldAddr_fp Tryd.fld56_6
theorem Tryd.field56_6 {c : Array Value} : afield Tryd.prog 56 (.agg c) 6 = mkField c (some (6, false, 1)) := afield_eq' Tryd.fld56_6
theorem Tryd.fld56_7 : fld Tryd.prog 56 7 = some (7, false, 1) := by kernel_rfl
theorem Tryd.fieldAddr56_7 {b o : Nat} : afieldAddr Tryd.prog 56 (.pointer (some ⟨b, o, none⟩)) 7 = mkFieldAddr b o (some (7, false, 1)) := afieldAddr_eq' Tryd.fld56_7
theorem Tryd.fieldAddrF56_7 {c : Array Value} {n : Nat} : afieldAddr Tryd.prog 56 (fp c n) 7 = mkFieldAddrF c n (some (7, false, 1)) := afieldAddr_fp Tryd.fld56_7
theorem Tryd.field56_7 {c : Array Value} : afield Tryd.prog 56 (.agg c) 7 = mkField c (some (7, false, 1)) := afield_eq' Tryd.fld56_7
theorem Tryd.fld56_8 : fld Tryd.prog 56 8 = some (8, false, 1) := by kernel_rfl
theorem Tryd.fieldAddr56_8 {b o : Nat} : afieldAddr Tryd.prog 56 (.pointer (some ⟨b, o, none⟩)) 8 = mkFieldAddr b o (some (8, false, 1)) := afieldAddr_eq' Tryd.fld56_8
theorem Tryd.fieldAddrF56_8 {c : Array Value} {n : Nat} : afieldAddr Tryd.prog 56 (fp c n) 8 = mkFieldAddrF c n (some (8, false, 1)) := afieldAddr_fp Tryd.fld56_8
theorem Tryd.field56_8 {c : Array Value} : afield Tryd.prog 56 (.agg c) 8 = mkField c (some (8, false, 1)) := afield_eq' Tryd.fld56_8
theorem Tryd.fld56_9 : fld Tryd.prog 56 9 = some (9, false, 1) := by kernel_rfl
theorem Tryd.fieldAddr56_9 {b o : Nat} : afieldAddr Tryd.prog 56 (.pointer (some ⟨b, o, none⟩)) 9 = mkFieldAddr b o (some (9, false, 1)) := afieldAddr_eq' Tryd.fld56_9
theorem Tryd.fieldAddrF56_9 {c : Array Value} {n : Nat} : afieldAddr Tryd.prog 56 (fp c n) 9 = mkFieldAddrF c n (some (9, false, 1)) := afieldAddr_fp Tryd.fld56_9
theorem Tryd.field56_9 {c : Array Value} : afield Tryd.prog 56 (.agg c) 9 = mkField c (some (9, false, 1)) := afield_eq' Tryd.fld56_9
theorem Tryd.fld56_10 : fld Tryd.prog 56 10 = some (10, false, 1) := by kernel_rfl
theorem Tryd.fieldAddr56_10 {b o : Nat} : afieldAddr Tryd.prog 56 (.pointer (some ⟨b, o, none⟩)) 10 = mkFieldAddr b o (some (10, false, 1)) := afieldAddr_eq' Tryd.fld56_10
theorem Tryd.fieldAddrF56_10 {c : Array Value} {n : Nat} : afieldAddr Tryd.prog 56 (fp c n) 10 = mkFieldAddrF c n (some (10, false, 1)) := afieldAddr_fp Tryd.fld56_10
theorem Tryd.field56_10 {c : Array Value} : afield Tryd.prog 56 (.agg c) 10 = mkField c (some (10, false, 1)) := afield_eq' Tryd.fld56_10
theorem Tryd.zero1 : zeroCellsOf Tryd.prog 1 = some (#[Value.nilFunc]) := by kernel_rfl
theorem Tryd.alloc1 {h : AH} : aalloc Tryd.prog h 1 = mkAlloc h (some (#[Value.nilFunc])) := aalloc_eq' Tryd.zero1
theorem Tryd.zero2 : zeroCellsOf Tryd.prog 2 = some (#[Value.int IntKind.i64 (0)]) := by kernel_rfl
theorem Tryd.alloc2 {h : AH} : aalloc Tryd.prog h 2 = mkAlloc h (some (#[Value.int IntKind.i64 (0)])) := aalloc_eq' Tryd.zero2
theorem Tryd.zero3 : zeroCellsOf Tryd.prog 3 = some (#[Value.int IntKind.i64 (0)]) := by kernel_rfl
theorem Tryd.alloc3 {h : AH} : aalloc Tryd.prog h 3 = mkAlloc h (some (#[Value.int IntKind.i64 (0)])) := aalloc_eq' Tryd.zero3
theorem Tryd.zero4 : zeroCellsOf Tryd.prog 4 = some (#[Value.bool false]) := by kernel_rfl
theorem Tryd.alloc4 {h : AH} : aalloc Tryd.prog h 4 = mkAlloc h (some (#[Value.bool false])) := aalloc_eq' Tryd.zero4
theorem Tryd.zero5 : zeroCellsOf Tryd.prog 5 = some (#[Value.int IntKind.u8 (0)]) := by kernel_rfl
theorem Tryd.alloc5 {h : AH} : aalloc Tryd.prog h 5 = mkAlloc h (some (#[Value.int IntKind.u8 (0)])) := aalloc_eq' Tryd.zero5
theorem Tryd.zero6 : zeroCellsOf Tryd.prog 6 = some (#[Value.int IntKind.u8 (0)]) := by kernel_rfl
theorem Tryd.alloc6 {h : AH} : aalloc Tryd.prog h 6 = mkAlloc h (some (#[Value.int IntKind.u8 (0)])) := aalloc_eq' Tryd.zero6
theorem Tryd.zero7 : zeroCellsOf Tryd.prog 7 = some (#[Value.int IntKind.i64 (0), Value.int IntKind.i64 (0), Value.bool false, Value.int IntKind.u8 (0)]) := by kernel_rfl
theorem Tryd.alloc7 {h : AH} : aalloc Tryd.prog h 7 = mkAlloc h (some (#[Value.int IntKind.i64 (0), Value.int IntKind.i64 (0), Value.bool false, Value.int IntKind.u8 (0)])) := aalloc_eq' Tryd.zero7
theorem Tryd.zero8 : zeroCellsOf Tryd.prog 8 = some (#[Value.int IntKind.i64 (0), Value.int IntKind.i64 (0), Value.bool false, Value.int IntKind.u8 (0)]) := by kernel_rfl
theorem Tryd.alloc8 {h : AH} : aalloc Tryd.prog h 8 = mkAlloc h (some (#[Value.int IntKind.i64 (0), Value.int IntKind.i64 (0), Value.bool false, Value.int IntKind.u8 (0)])) := aalloc_eq' Tryd.zero8
theorem Tryd.zero9 : zeroCellsOf Tryd.prog 9 = some (#[Value.string { data := { toList := [] } }]) := by kernel_rfl
theorem Tryd.alloc9 {h : AH} : aalloc Tryd.prog h 9 = mkAlloc h (some (#[Value.string { data := { toList := [] } }])) := aalloc_eq' Tryd.zero9
theorem Tryd.zero10 : zeroCellsOf Tryd.prog 10 = some (#[Value.string { data := { toList := [] } }]) := by kernel_rfl
theorem Tryd.alloc10 {h : AH} : aalloc Tryd.prog h 10 = mkAlloc h (some (#[Value.string { data := { toList := [] } }])) := aalloc_eq' Tryd.zero10
theorem Tryd.zero11 : zeroCellsOf Tryd.prog 11 = some (#[Value.string { data := { toList := [] } }]) := by kernel_rfl
theorem Tryd.alloc11 {h : AH} : aalloc Tryd.prog h 11 = mkAlloc h (some (#[Value.string { data := { toList := [] } }])) := aalloc_eq' Tryd.zero11
theorem Tryd.zero12 : zeroCellsOf Tryd.prog 12 = some (#[Value.int IntKind.u64 (0)]) := by kernel_rfl
theorem Tryd.alloc12 {h : AH} : aalloc Tryd.prog h 12 = mkAlloc h (some (#[Value.int IntKind.u64 (0)])) := aalloc_eq' Tryd.zero12
theorem Tryd.zero13 : zeroCellsOf Tryd.prog 13 = some (#[Value.string { data := { toList := [] } }, Value.int IntKind.u64 (0)]) := by kernel_rfl
theorem Tryd.alloc13 {h : AH} : aalloc Tryd.prog h 13 = mkAlloc h (some (#[Value.string { data := { toList := [] } }, Value.int IntKind.u64 (0)])) := aalloc_eq' Tryd.zero13
theorem Tryd.zero14 : zeroCellsOf Tryd.prog 14 = some (#[Value.string { data := { toList := [] } }, Value.int IntKind.u64 (0)]) := by kernel_rfl
theorem Tryd.alloc14 {h : AH} : aalloc Tryd.prog h 14 = mkAlloc h (some (#[Value.string { data := { toList := [] } }, Value.int IntKind.u64 (0)])) := aalloc_eq' Tryd.zero14
theorem Tryd.zero15 : zeroCellsOf Tryd.prog 15 = some (#[Value.pointer none]) := by kernel_rfl
theorem Tryd.alloc15 {h : AH} : aalloc Tryd.prog h 15 = mkAlloc h (some (#[Value.pointer none])) := aalloc_eq' Tryd.zero15
theorem Tryd.zero16 : zeroCellsOf Tryd.prog 16 = some (#[Value.pointer none]) := by kernel_rfl
theorem Tryd.alloc16 {h : AH} : aalloc Tryd.prog h 16 = mkAlloc h (some (#[Value.pointer none])) := aalloc_eq' Tryd.zero16
theorem Tryd.zero17 : zeroCellsOf Tryd.prog 17 = some (#[Value.pointer none]) := by kernel_rfl
theorem Tryd.alloc17 {h : AH} : aalloc Tryd.prog h 17 = mkAlloc h (some (#[Value.pointer none])) := aalloc_eq' Tryd.zero17
theorem Tryd.zero18 : zeroCellsOf Tryd.prog 18 = some (#[Value.pointer none]) := by kernel_rfl
theorem Tryd.alloc18 {h : AH} : aalloc Tryd.prog h 18 = mkAlloc h (some (#[Value.pointer none])) := aalloc_eq' Tryd.zero18
theorem Tryd.zero19 : zeroCellsOf Tryd.prog 19 = some (#[Value.pointer none]) := by kernel_rfl
theorem Tryd.alloc19 {h : AH} : aalloc Tryd.prog h 19 = mkAlloc h (some (#[Value.pointer none])) := aalloc_eq' Tryd.zero19
theorem Tryd.zero20 : zeroCellsOf Tryd.prog 20 = some (#[Value.nilIface]) := by kernel_rfl
theorem Tryd.alloc20 {h : AH} : aalloc Tryd.prog h 20 = mkAlloc h (some (#[Value.nilIface])) := aalloc_eq' Tryd.zero20
theorem Tryd.zero21 : zeroCellsOf Tryd.prog 21 = some (#[Value.int IntKind.i32 (0)]) := by kernel_rfl
theorem Tryd.alloc21 {h : AH} : aalloc Tryd.prog h 21 = mkAlloc h (some (#[Value.int IntKind.i32 (0)])) := aalloc_eq' Tryd.zero21
theorem Tryd.zero22 : zeroCellsOf Tryd.prog 22 = some (#[Value.slice none 0 0]) := by kernel_rfl
theorem Tryd.alloc22 {h : AH} : aalloc Tryd.prog h 22 = mkAlloc h (some (#[Value.slice none 0 0])) := aalloc_eq' Tryd.zero22
theorem Tryd.zero23 : zeroCellsOf Tryd.prog 23 = some (#[Value.nilFunc]) := by kernel_rfl
theorem Tryd.alloc23 {h : AH} : aalloc Tryd.prog h 23 = mkAlloc h (some (#[Value.nilFunc])) := aalloc_eq' Tryd.zero23
theorem Tryd.zero24 : zeroCellsOf Tryd.prog 24 = some (#[Value.int IntKind.u64 (0)]) := by kernel_rfl
theorem Tryd.alloc24 {h : AH} : aalloc Tryd.prog h 24 = mkAlloc h (some (#[Value.int IntKind.u64 (0)])) := aalloc_eq' Tryd.zero24
theorem Tryd.zero25 : zeroCellsOf Tryd.prog 25 = some (#[Value.int IntKind.u64 (0), Value.int IntKind.u64 (0), Value.int IntKind.u64 (0), Value.int IntKind.u64 (0)]) := by kernel_rfl
theorem Tryd.alloc25 {h : AH} : aalloc Tryd.prog h 25 = mkAlloc h (some (#[Value.int IntKind.u64 (0), Value.int IntKind.u64 (0), Value.int IntKind.u64 (0), Value.int IntKind.u64 (0)])) := aalloc_eq' Tryd.zero25
theorem Tryd.zero26 : zeroCellsOf Tryd.prog 26 = some (#[Value.int IntKind.u64 (0), Value.int IntKind.u64 (0), Value.int IntKind.u64 (0), Value.int IntKind.u64 (0)]) := by kernel_rfl
theorem Tryd.alloc26 {h : AH} : aalloc Tryd.prog h 26 = mkAlloc h (some (#[Value.int IntKind.u64 (0), Value.int IntKind.u64 (0), Value.int IntKind.u64 (0), Value.int IntKind.u64 (0)])) := aalloc_eq' Tryd.zero26
theorem Tryd.zero27 : zeroCellsOf Tryd.prog 27 = some (#[Value.nilFunc]) := by kernel_rfl
theorem Tryd.alloc27 {h : AH} : aalloc Tryd.prog h 27 = mkAlloc h (some (#[Value.nilFunc])) := aalloc_eq' Tryd.zero27
theorem Tryd.zero28 : zeroCellsOf Tryd.prog 28 = some (#[Value.nilFunc]) := by kernel_rfl
theorem Tryd.alloc28 {h : AH} : aalloc Tryd.prog h 28 = mkAlloc h (some (#[Value.nilFunc])) := aalloc_eq' Tryd.zero28
theorem Tryd.zero29 : zeroCellsOf Tryd.prog 29 = some (#[Value.int IntKind.u32 (0)]) := by kernel_rfl
theorem Tryd.alloc29 {h : AH} : aalloc Tryd.prog h 29 = mkAlloc h (some (#[Value.int IntKind.u32 (0)])) := aalloc_eq' Tryd.zero29
theorem Tryd.zero30 : zeroCellsOf Tryd.prog 30 = some ((Array.replicate 8 (Value.int IntKind.u32 (0)))) := by kernel_rfl
theorem Tryd.alloc30 {h : AH} : aalloc Tryd.prog h 30 = mkAlloc h (some ((Array.replicate 8 (Value.int IntKind.u32 (0))))) := aalloc_eq' Tryd.zero30
theorem Tryd.zero31 : zeroCellsOf Tryd.prog 31 = some ((Array.replicate 8 (Value.int IntKind.u32 (0)))) := by kernel_rfl
theorem Tryd.alloc31 {h : AH} : aalloc Tryd.prog h 31 = mkAlloc h (some ((Array.replicate 8 (Value.int IntKind.u32 (0))))) := aalloc_eq' Tryd.zero31
theorem Tryd.zero32 : zeroCellsOf Tryd.prog 32 = some (#[Value.nilFunc]) := by kernel_rfl
theorem Tryd.alloc32 {h : AH} : aalloc Tryd.prog h 32 = mkAlloc h (some (#[Value.nilFunc])) := aalloc_eq' Tryd.zero32
theorem Tryd.zero33 : zeroCellsOf Tryd.prog 33 = some ((Array.replicate 128 (Value.int IntKind.u8 (0)))) := by kernel_rfl
theorem Tryd.alloc33 {h : AH} : aalloc Tryd.prog h 33 = mkAlloc h (some ((Array.replicate 128 (Value.int IntKind.u8 (0))))) := aalloc_eq' Tryd.zero33
theorem Tryd.zero34 : zeroCellsOf Tryd.prog 34 = some (#[Value.int IntKind.u64 (0)]) := by kernel_rfl
theorem Tryd.alloc34 {h : AH} : aalloc Tryd.prog h 34 = mkAlloc h (some (#[Value.int IntKind.u64 (0)])) := aalloc_eq' Tryd.zero34
theorem Tryd.zero35 : zeroCellsOf Tryd.prog 35 = some (#[Value.slice none 0 0]) := by kernel_rfl
theorem Tryd.alloc35 {h : AH} : aalloc Tryd.prog h 35 = mkAlloc h (some (#[Value.slice none 0 0])) := aalloc_eq' Tryd.zero35
theorem Tryd.zero36 : zeroCellsOf Tryd.prog 36 = some (#[Value.nilFunc]) := by kernel_rfl
theorem Tryd.alloc36 {h : AH} : aalloc Tryd.prog h 36 = mkAlloc h (some (#[Value.nilFunc])) := aalloc_eq' Tryd.zero36
theorem Tryd.zero37 : zeroCellsOf Tryd.prog 37 = some (#[Value.pointer none]) := by kernel_rfl
theorem Tryd.alloc37 {h : AH} : aalloc Tryd.prog h 37 = mkAlloc h (some (#[Value.pointer none])) := aalloc_eq' Tryd.zero37
theorem Tryd.zero38 : zeroCellsOf Tryd.prog 38 = some ((Array.replicate 64 (Value.int IntKind.u32 (0)))) := by kernel_rfl
theorem Tryd.alloc38 {h : AH} : aalloc Tryd.prog h 38 = mkAlloc h (some ((Array.replicate 64 (Value.int IntKind.u32 (0))))) := aalloc_eq' Tryd.zero38
theorem Tryd.zero39 : zeroCellsOf Tryd.prog 39 = some (#[Value.nilFunc]) := by kernel_rfl
theorem Tryd.alloc39 {h : AH} : aalloc Tryd.prog h 39 = mkAlloc h (some (#[Value.nilFunc])) := aalloc_eq' Tryd.zero39
theorem Tryd.zero40 : zeroCellsOf Tryd.prog 40 = some (#[Value.nilFunc]) := by kernel_rfl
theorem Tryd.alloc40 {h : AH} : aalloc Tryd.prog h 40 = mkAlloc h (some (#[Value.nilFunc])) := aalloc_eq' Tryd.zero40
theorem Tryd.zero41 : zeroCellsOf Tryd.prog 41 = some (#[Value.nilFunc]) := by kernel_rfl
theorem Tryd.alloc41 {h : AH} : aalloc Tryd.prog h 41 = mkAlloc h (some (#[Value.nilFunc])) := aalloc_eq' Tryd.zero41
theorem Tryd.zero42 : zeroCellsOf Tryd.prog 42 = some (#[Value.nilFunc]) := by kernel_rfl
theorem Tryd.alloc42 {h : AH} : aalloc Tryd.prog h 42 = mkAlloc h (some (#[Value.nilFunc])) := aalloc_eq' Tryd.zero42
theorem Tryd.zero43 : zeroCellsOf Tryd.prog 43 = some (#[Value.pointer none, Value.pointer none, Value.pointer none, Value.string { data := { toList := [] } }]) := by kernel_rfl
theorem Tryd.alloc43 {h : AH} : aalloc Tryd.prog h 43 = mkAlloc h (some (#[Value.pointer none, Value.pointer none, Value.pointer none, Value.string { data := { toList := [] } }])) := aalloc_eq' Tryd.zero43
theorem Tryd.zero44 : zeroCellsOf Tryd.prog 44 = some (#[Value.pointer none, Value.pointer none, Value.pointer none, Value.string { data := { toList := [] } }]) := by kernel_rfl
theorem Tryd.alloc44 {h : AH} : aalloc Tryd.prog h 44 = mkAlloc h (some (#[Value.pointer none, Value.pointer none, Value.pointer none, Value.string { data := { toList := [] } }])) := aalloc_eq' Tryd.zero44
theorem Tryd.zero48 : zeroCellsOf Tryd.prog 48 = some (#[Value.nilFunc]) := by kernel_rfl
theorem Tryd.alloc48 {h : AH} : aalloc Tryd.prog h 48 = mkAlloc h (some (#[Value.nilFunc])) := aalloc_eq' Tryd.zero48
theorem Tryd.zero49 : zeroCellsOf Tryd.prog 49 = some (#[Value.int IntKind.u8 (0)]) := by kernel_rfl
theorem Tryd.alloc49 {h : AH} : aalloc Tryd.prog h 49 = mkAlloc h (some (#[Value.int IntKind.u8 (0)])) := aalloc_eq' Tryd.zero49
theorem Tryd.zero50 : zeroCellsOf Tryd.prog 50 = some (#[Value.int IntKind.u8 (0)]) := by kernel_rfl
theorem Tryd.alloc50 {h : AH} : aalloc Tryd.prog h 50 = mkAlloc h (some (#[Value.int IntKind.u8 (0)])) := aalloc_eq' Tryd.zero50
theorem Tryd.zero51 : zeroCellsOf Tryd.prog 51 = some (#[Value.nilFunc]) := by kernel_rfl
theorem Tryd.alloc51 {h : AH} : aalloc Tryd.prog h 51 = mkAlloc h (some (#[Value.nilFunc])) := aalloc_eq' Tryd.zero51
theorem Tryd.zero52 : zeroCellsOf Tryd.prog 52 = some (#[Value.pointer none]) := by kernel_rfl
theorem Tryd.alloc52 {h : AH} : aalloc Tryd.prog h 52 = mkAlloc h (some (#[Value.pointer none])) := aalloc_eq' Tryd.zero52
theorem Tryd.zero53 : zeroCellsOf Tryd.prog 53 = some (#[Value.int IntKind.i32 (0)]) := by kernel_rfl
theorem Tryd.alloc53 {h : AH} : aalloc Tryd.prog h 53 = mkAlloc h (some (#[Value.int IntKind.i32 (0)])) := aalloc_eq' Tryd.zero53
theorem Tryd.zero54 : zeroCellsOf Tryd.prog 54 = some (#[Value.int IntKind.i32 (0)]) := by kernel_rfl
theorem Tryd.alloc54 {h : AH} : aalloc Tryd.prog h 54 = mkAlloc h (some (#[Value.int IntKind.i32 (0)])) := aalloc_eq' Tryd.zero54
theorem Tryd.zero55 : zeroCellsOf Tryd.prog 55 = some (#[Value.int IntKind.u64 (0), Value.int IntKind.u64 (0), Value.int IntKind.u32 (0), Value.int IntKind.u8 (0), Value.int IntKind.u8 (0), Value.int IntKind.u8 (0), Value.int IntKind.u8 (0), Value.nilFunc, Value.pointer none, Value.int IntKind.i32 (0), Value.int IntKind.i32 (0)]) := by kernel_rfl
theorem Tryd.alloc55 {h : AH} : aalloc Tryd.prog h 55 = mkAlloc h (some (#[Value.int IntKind.u64 (0), Value.int IntKind.u64 (0), Value.int IntKind.u32 (0), Value.int IntKind.u8 (0), Value.int IntKind.u8 (0), Value.int IntKind.u8 (0), Value.int IntKind.u8 (0), Value.nilFunc, Value.pointer none, Value.int IntKind.i32 (0), Value.int IntKind.i32 (0)])) := aalloc_eq' Tryd.zero55
theorem Tryd.zero56 : zeroCellsOf Tryd.prog 56 = some (#[Value.int IntKind.u64 (0), Value.int IntKind.u64 (0), Value.int IntKind.u32 (0), Value.int IntKind.u8 (0), Value.int IntKind.u8 (0), Value.int IntKind.u8 (0), Value.int IntKind.u8 (0), Value.nilFunc, Value.pointer none, Value.int IntKind.i32 (0), Value.int IntKind.i32 (0)]) := by kernel_rfl
theorem Tryd.alloc56 {h : AH} : aalloc Tryd.prog h 56 = mkAlloc h (some (#[Value.int IntKind.u64 (0), Value.int IntKind.u64 (0), Value.int IntKind.u32 (0), Value.int IntKind.u8 (0), Value.int IntKind.u8 (0), Value.int IntKind.u8 (0), Value.int IntKind.u8 (0), Value.nilFunc, Value.pointer none, Value.int IntKind.i32 (0), Value.int IntKind.i32 (0)])) := aalloc_eq' Tryd.zero56
theorem Tryd.zero57 : zeroCellsOf Tryd.prog 57 = some (#[Value.pointer none]) := by kernel_rfl
theorem Tryd.alloc57 {h : AH} : aalloc Tryd.prog h 57 = mkAlloc h (some (#[Value.pointer none])) := aalloc_eq' Tryd.zero57
theorem Tryd.plc7 : plc Tryd.prog 7 = some [(0, 1), (1, 1), (2, 1), (3, 1)] := by kernel_rfl
theorem Tryd.build7 {ps : List (Nat × Value)} : abuild Tryd.prog 7 ps = mkBuild ps (some (#[Value.int IntKind.i64 (0), Value.int IntKind.i64 (0), Value.bool false, Value.int IntKind.u8 (0)])) (some [(0, 1), (1, 1), (2, 1), (3, 1)]) := abuild_eq' Tryd.zero7 Tryd.plc7
theorem Tryd.plc8 : plc Tryd.prog 8 = some [(0, 1), (1, 1), (2, 1), (3, 1)] := by kernel_rfl
theorem Tryd.build8 {ps : List (Nat × Value)} : abuild Tryd.prog 8 ps = mkBuild ps (some (#[Value.int IntKind.i64 (0), Value.int IntKind.i64 (0), Value.bool false, Value.int IntKind.u8 (0)])) (some [(0, 1), (1, 1), (2, 1), (3, 1)]) := abuild_eq' Tryd.zero8 Tryd.plc8
theorem Tryd.plc13 : plc Tryd.prog 13 = some [(0, 1), (1, 1)] := by kernel_rfl
theorem Tryd.build13 {ps : List (Nat × Value)} : abuild Tryd.prog 13 ps = mkBuild ps (some (#[Value.string { data := { toList := [] } }, Value.int IntKind.u64 (0)])) (some [(0, 1), (1, 1)]) := abuild_eq' Tryd.zero13 Tryd.plc13
theorem Tryd.plc14 : plc Tryd.prog 14 = some [(0, 1), (1, 1)] := by kernel_rfl
theorem Tryd.build14 {ps : List (Nat × Value)} : abuild Tryd.prog 14 ps = mkBuild ps (some (#[Value.string { data := { toList := [] } }, Value.int IntKind.u64 (0)])) (some [(0, 1), (1, 1)]) := abuild_eq' Tryd.zero14 Tryd.plc14
theorem Tryd.plc18 : plc Tryd.prog 18 = some [(0, 1)] := by kernel_rfl
theorem Tryd.build18 {ps : List (Nat × Value)} : abuild Tryd.prog 18 ps = mkBuild ps (some (#[Value.pointer none])) (some [(0, 1)]) := abuild_eq' Tryd.zero18 Tryd.plc18
theorem Tryd.plc19 : plc Tryd.prog 19 = some [(0, 1)] := by kernel_rfl
theorem Tryd.build19 {ps : List (Nat × Value)} : abuild Tryd.prog 19 ps = mkBuild ps (some (#[Value.pointer none])) (some [(0, 1)]) := abuild_eq' Tryd.zero19 Tryd.plc19
theorem Tryd.plc43 : plc Tryd.prog 43 = some [(0, 1), (1, 1), (2, 1), (3, 1)] := by kernel_rfl
theorem Tryd.build43 {ps : List (Nat × Value)} : abuild Tryd.prog 43 ps = mkBuild ps (some (#[Value.pointer none, Value.pointer none, Value.pointer none, Value.string { data := { toList := [] } }])) (some [(0, 1), (1, 1), (2, 1), (3, 1)]) := abuild_eq' Tryd.zero43 Tryd.plc43
theorem Tryd.plc44 : plc Tryd.prog 44 = some [(0, 1), (1, 1), (2, 1), (3, 1)] := by kernel_rfl
theorem Tryd.build44 {ps : List (Nat × Value)} : abuild Tryd.prog 44 ps = mkBuild ps (some (#[Value.pointer none, Value.pointer none, Value.pointer none, Value.string { data := { toList := [] } }])) (some [(0, 1), (1, 1), (2, 1), (3, 1)]) := abuild_eq' Tryd.zero44 Tryd.plc44
theorem Tryd.plc46 : plc Tryd.prog 46 = some [(0, 0)] := by kernel_rfl
theorem Tryd.plc47 : plc Tryd.prog 47 = some [(0, 0)] := by kernel_rfl
theorem Tryd.plc55 : plc Tryd.prog 55 = some [(0, 1), (1, 1), (2, 1), (3, 1), (4, 1), (5, 1), (6, 1), (7, 1), (8, 1), (9, 1), (10, 1)] := by kernel_rfl
theorem Tryd.build55 {ps : List (Nat × Value)} : abuild Tryd.prog 55 ps = mkBuild ps (some (#[Value.int IntKind.u64 (0), Value.int IntKind.u64 (0), Value.int IntKind.u32 (0), Value.int IntKind.u8 (0), Value.int IntKind.u8 (0), Value.int IntKind.u8 (0), Value.int IntKind.u8 (0), Value.nilFunc, Value.pointer none, Value.int IntKind.i32 (0), Value.int IntKind.i32 (0)])) (some [(0, 1), (1, 1), (2, 1), (3, 1), (4, 1), (5, 1), (6, 1), (7, 1), (8, 1), (9, 1), (10, 1)]) := abuild_eq' Tryd.zero55 Tryd.plc55
theorem Tryd.plc56 : plc Tryd.prog 56 = some [(0, 1), (1, 1), (2, 1), (3, 1), (4, 1), (5, 1), (6, 1), (7, 1), (8, 1), (9, 1), (10, 1)] := by kernel_rfl
theorem Tryd.build56 {ps : List (Nat × Value)} : abuild Tryd.prog 56 ps = mkBuild ps (some (#[Value.int IntKind.u64 (0), Value.int IntKind.u64 (0), Value.int IntKind.u32 (0), Value.int IntKind.u8 (0), Value.int IntKind.u8 (0), Value.int IntKind.u8 (0), Value.int IntKind.u8 (0), Value.nilFunc, Value.pointer none, Value.int IntKind.i32 (0), Value.int IntKind.i32 (0)])) (some [(0, 1), (1, 1), (2, 1), (3, 1), (4, 1), (5, 1), (6, 1), (7, 1), (8, 1), (9, 1), (10, 1)]) := abuild_eq' Tryd.zero56 Tryd.plc56
theorem Tryd.arr25 : arr Tryd.prog 25 = some (4, false, 1) := by kernel_rfl
theorem Tryd.index25 {c : Array Value} {k : IntKind} {i : Int} : aindex Tryd.prog 25 (.agg c) (.int k i) = mkIndex c i (some (4, false, 1)) := aindex_eq' Tryd.arr25
theorem Tryd.indexA25 {b o : Nat} {k : IntKind} {i : Int} : aindexAddr Tryd.prog 25 (.pointer (some ⟨b, o, none⟩)) (.int k i) = mkIndexA b o i (some (4, false, 1)) := aindexA_eq' Tryd.arr25
theorem Tryd.indexF25 {c : Array Value} {n : Nat} {k : IntKind} {i : Int} : aindexAddr Tryd.prog 25 (fp c n) (.int k i) = mkIndexF c n i (some (4, false, 1)) := aindexAddr_fp Tryd.arr25
theorem Tryd.sliceF25 {h : AH} {c : Array Value} {n : Nat} {lo hi : Option Value} : aslice Tryd.prog h 25 (fp c n) lo hi = mkSliceF c n lo hi (some (4, false, 1)) := aslice_fp Tryd.arr25
theorem Tryd.arrptrZ25 {c : Array Value} {n : Nat} : aarrayPtr Tryd.prog 25 (fz c n) = if 4 ≤ n ∧ 0 < n then some (fp c 0) else none := aarr_fz Tryd.arr25
theorem Tryd.lenA25 {h : AH} {x : Value} : alen Tryd.prog h 25 x = some (.int .i64 4) := alenA_eq' Tryd.arr25
theorem Tryd.sliceA25 {h : AH} {b o : Nat} {lo hi : Option Value} : aslice Tryd.prog h 25 (.pointer (some ⟨b, o, none⟩)) lo hi = mkSliceA b o lo hi (some (4, false, 1)) := asliceA_eq' Tryd.arr25
theorem Tryd.arrptr25 {b o l c : Nat} : aarrayPtr Tryd.prog 25 (.slice (some ⟨b, o, none⟩) l c) = mkArrPtr b o l (some (4, false, 1)) := aarr_eq' Tryd.arr25
theorem Tryd.buildA25 {ps : List (Nat × Value)} : abuild Tryd.prog 25 ps = mkBuildA ps (some (#[Value.int IntKind.u64 (0), Value.int IntKind.u64 (0), Value.int IntKind.u64 (0), Value.int IntKind.u64 (0)])) (some (4, false, 1)) := abuildA_eq' Tryd.zero25 Tryd.arr25
theorem Tryd.arr26 : arr Tryd.prog 26 = some (4, false, 1) := by kernel_rfl
theorem Tryd.index26 {c : Array Value} {k : IntKind} {i : Int} : aindex Tryd.prog 26 (.agg c) (.int k i) = mkIndex c i (some (4, false, 1)) := aindex_eq' Tryd.arr26
theorem Tryd.indexA26 {b o : Nat} {k : IntKind} {i : Int} : aindexAddr Tryd.prog 26 (.pointer (some ⟨b, o, none⟩)) (.int k i) = mkIndexA b o i (some (4, false, 1)) := aindexA_eq' Tryd.arr26
theorem Tryd.indexF26 {c : Array Value} {n : Nat} {k : IntKind} {i : Int} : aindexAddr Tryd.prog 26 (fp c n) (.int k i) = mkIndexF c n i (some (4, false, 1)) := aindexAddr_fp Tryd.arr26
theorem Tryd.sliceF26 {h : AH} {c : Array Value} {n : Nat} {lo hi : Option Value} : aslice Tryd.prog h 26 (fp c n) lo hi = mkSliceF c n lo hi (some (4, false, 1)) := aslice_fp Tryd.arr26
theorem Tryd.arrptrZ26 {c : Array Value} {n : Nat} : aarrayPtr Tryd.prog 26 (fz c n) = if 4 ≤ n ∧ 0 < n then some (fp c 0) else none := aarr_fz Tryd.arr26
theorem Tryd.lenA26 {h : AH} {x : Value} : alen Tryd.prog h 26 x = some (.int .i64 4) := alenA_eq' Tryd.arr26
theorem Tryd.sliceA26 {h : AH} {b o : Nat} {lo hi : Option Value} : aslice Tryd.prog h 26 (.pointer (some ⟨b, o, none⟩)) lo hi = mkSliceA b o lo hi (some (4, false, 1)) := asliceA_eq' Tryd.arr26
theorem Tryd.arrptr26 {b o l c : Nat} : aarrayPtr Tryd.prog 26 (.slice (some ⟨b, o, none⟩) l c) = mkArrPtr b o l (some (4, false, 1)) := aarr_eq' Tryd.arr26
theorem Tryd.buildA26 {ps : List (Nat × Value)} : abuild Tryd.prog 26 ps = mkBuildA ps (some (#[Value.int IntKind.u64 (0), Value.int IntKind.u64 (0), Value.int IntKind.u64 (0), Value.int IntKind.u64 (0)])) (some (4, false, 1)) := abuildA_eq' Tryd.zero26 Tryd.arr26
theorem Tryd.arr30 : arr Tryd.prog 30 = some (8, false, 1) := by kernel_rfl
theorem Tryd.index30 {c : Array Value} {k : IntKind} {i : Int} : aindex Tryd.prog 30 (.agg c) (.int k i) = mkIndex c i (some (8, false, 1)) := aindex_eq' Tryd.arr30
theorem Tryd.indexA30 {b o : Nat} {k : IntKind} {i : Int} : aindexAddr Tryd.prog 30 (.pointer (some ⟨b, o, none⟩)) (.int k i) = mkIndexA b o i (some (8, false, 1)) := aindexA_eq' Tryd.arr30
theorem Tryd.indexF30 {c : Array Value} {n : Nat} {k : IntKind} {i : Int} : aindexAddr Tryd.prog 30 (fp c n) (.int k i) = mkIndexF c n i (some (8, false, 1)) := aindexAddr_fp Tryd.arr30
theorem Tryd.sliceF30 {h : AH} {c : Array Value} {n : Nat} {lo hi : Option Value} : aslice Tryd.prog h 30 (fp c n) lo hi = mkSliceF c n lo hi (some (8, false, 1)) := aslice_fp Tryd.arr30
theorem Tryd.arrptrZ30 {c : Array Value} {n : Nat} : aarrayPtr Tryd.prog 30 (fz c n) = if 8 ≤ n ∧ 0 < n then some (fp c 0) else none := aarr_fz Tryd.arr30
theorem Tryd.lenA30 {h : AH} {x : Value} : alen Tryd.prog h 30 x = some (.int .i64 8) := alenA_eq' Tryd.arr30
theorem Tryd.sliceA30 {h : AH} {b o : Nat} {lo hi : Option Value} : aslice Tryd.prog h 30 (.pointer (some ⟨b, o, none⟩)) lo hi = mkSliceA b o lo hi (some (8, false, 1)) := asliceA_eq' Tryd.arr30
theorem Tryd.arrptr30 {b o l c : Nat} : aarrayPtr Tryd.prog 30 (.slice (some ⟨b, o, none⟩) l c) = mkArrPtr b o l (some (8, false, 1)) := aarr_eq' Tryd.arr30
theorem Tryd.buildA30 {ps : List (Nat × Value)} : abuild Tryd.prog 30 ps = mkBuildA ps (some ((Array.replicate 8 (Value.int IntKind.u32 (0))))) (some (8, false, 1)) := abuildA_eq' Tryd.zero30 Tryd.arr30
theorem Tryd.arr31 : arr Tryd.prog 31 = some (8, false, 1) := by kernel_rfl
theorem Tryd.index31 {c : Array Value} {k : IntKind} {i : Int} : aindex Tryd.prog 31 (.agg c) (.int k i) = mkIndex c i (some (8, false, 1)) := aindex_eq' Tryd.arr31
theorem Tryd.indexA31 {b o : Nat} {k : IntKind} {i : Int} : aindexAddr Tryd.prog 31 (.pointer (some ⟨b, o, none⟩)) (.int k i) = mkIndexA b o i (some (8, false, 1)) := aindexA_eq' Tryd.arr31
theorem Tryd.indexF31 {c : Array Value} {n : Nat} {k : IntKind} {i : Int} : aindexAddr Tryd.prog 31 (fp c n) (.int k i) = mkIndexF c n i (some (8, false, 1)) := aindexAddr_fp Tryd.arr31
theorem Tryd.sliceF31 {h : AH} {c : Array Value} {n : Nat} {lo hi : Option Value} : aslice Tryd.prog h 31 (fp c n) lo hi = mkSliceF c n lo hi (some (8, false, 1)) := aslice_fp Tryd.arr31
theorem Tryd.arrptrZ31 {c : Array Value} {n : Nat} : aarrayPtr Tryd.prog 31 (fz c n) = if 8 ≤ n ∧ 0 < n then some (fp c 0) else none := aarr_fz Tryd.arr31
theorem Tryd.lenA31 {h : AH} {x : Value} : alen Tryd.prog h 31 x = some (.int .i64 8) := alenA_eq' Tryd.arr31
theorem Tryd.sliceA31 {h : AH} {b o : Nat} {lo hi : Option Value} : aslice Tryd.prog h 31 (.pointer (some ⟨b, o, none⟩)) lo hi = mkSliceA b o lo hi (some (8, false, 1)) := asliceA_eq' Tryd.arr31
theorem Tryd.arrptr31 {b o l c : Nat} : aarrayPtr Tryd.prog 31 (.slice (some ⟨b, o, none⟩) l c) = mkArrPtr b o l (some (8, false, 1)) := aarr_eq' Tryd.arr31
theorem Tryd.buildA31 {ps : List (Nat × Value)} : abuild Tryd.prog 31 ps = mkBuildA ps (some ((Array.replicate 8 (Value.int IntKind.u32 (0))))) (some (8, false, 1)) := abuildA_eq' Tryd.zero31 Tryd.arr31
theorem Tryd.arr33 : arr Tryd.prog 33 = some (128, false, 1) := by kernel_rfl
theorem Tryd.index33 {c : Array Value} {k : IntKind} {i : Int} : aindex Tryd.prog 33 (.agg c) (.int k i) = mkIndex c i (some (128, false, 1)) := aindex_eq' Tryd.arr33
theorem Tryd.indexA33 {b o : Nat} {k : IntKind} {i : Int} : aindexAddr Tryd.prog 33 (.pointer (some ⟨b, o, none⟩)) (.int k i) = mkIndexA b o i (some (128, false, 1)) := aindexA_eq' Tryd.arr33
theorem Tryd.indexF33 {c : Array Value} {n : Nat} {k : IntKind} {i : Int} : aindexAddr Tryd.prog 33 (fp c n) (.int k i) = mkIndexF c n i (some (128, false, 1)) := aindexAddr_fp Tryd.arr33
theorem Tryd.sliceF33 {h : AH} {c : Array Value} {n : Nat} {lo hi : Option Value} : aslice Tryd.prog h 33 (fp c n) lo hi = mkSliceF c n lo hi (some (128, false, 1)) := aslice_fp Tryd.arr33
theorem Tryd.arrptrZ33 {c : Array Value} {n : Nat} : aarrayPtr Tryd.prog 33 (fz c n) = if 128 ≤ n ∧ 0 < n then some (fp c 0) else none := aarr_fz Tryd.arr33
theorem Tryd.lenA33 {h : AH} {x : Value} : alen Tryd.prog h 33 x = some (.int .i64 128) := alenA_eq' Tryd.arr33
theorem Tryd.sliceA33 {h : AH} {b o : Nat} {lo hi : Option Value} : aslice Tryd.prog h 33 (.pointer (some ⟨b, o, none⟩)) lo hi = mkSliceA b o lo hi (some (128, false, 1)) := asliceA_eq' Tryd.arr33
theorem Tryd.arrptr33 {b o l c : Nat} : aarrayPtr Tryd.prog 33 (.slice (some ⟨b, o, none⟩) l c) = mkArrPtr b o l (some (128, false, 1)) := aarr_eq' Tryd.arr33
theorem Tryd.buildA33 {ps : List (Nat × Value)} : abuild Tryd.prog 33 ps = mkBuildA ps (some ((Array.replicate 128 (Value.int IntKind.u8 (0))))) (some (128, false, 1)) := abuildA_eq' Tryd.zero33 Tryd.arr33
theorem Tryd.arr38 : arr Tryd.prog 38 = some (64, false, 1) := by kernel_rfl
theorem Tryd.index38 {c : Array Value} {k : IntKind} {i : Int} : aindex Tryd.prog 38 (.agg c) (.int k i) = mkIndex c i (some (64, false, 1)) := aindex_eq' Tryd.arr38
theorem Tryd.indexA38 {b o : Nat} {k : IntKind} {i : Int} : aindexAddr Tryd.prog 38 (.pointer (some ⟨b, o, none⟩)) (.int k i) = mkIndexA b o i (some (64, false, 1)) := aindexA_eq' Tryd.arr38
theorem Tryd.indexF38 {c : Array Value} {n : Nat} {k : IntKind} {i : Int} : aindexAddr Tryd.prog 38 (fp c n) (.int k i) = mkIndexF c n i (some (64, false, 1)) := aindexAddr_fp Tryd.arr38
theorem Tryd.sliceF38 {h : AH} {c : Array Value} {n : Nat} {lo hi : Option Value} : aslice Tryd.prog h 38 (fp c n) lo hi = mkSliceF c n lo hi (some (64, false, 1)) := aslice_fp Tryd.arr38
theorem Tryd.arrptrZ38 {c : Array Value} {n : Nat} : aarrayPtr Tryd.prog 38 (fz c n) = if 64 ≤ n ∧ 0 < n then some (fp c 0) else none := aarr_fz Tryd.arr38
theorem Tryd.lenA38 {h : AH} {x : Value} : alen Tryd.prog h 38 x = some (.int .i64 64) := alenA_eq' Tryd.arr38
theorem Tryd.sliceA38 {h : AH} {b o : Nat} {lo hi : Option Value} : aslice Tryd.prog h 38 (.pointer (some ⟨b, o, none⟩)) lo hi = mkSliceA b o lo hi (some (64, false, 1)) := asliceA_eq' Tryd.arr38
theorem Tryd.arrptr38 {b o l c : Nat} : aarrayPtr Tryd.prog 38 (.slice (some ⟨b, o, none⟩) l c) = mkArrPtr b o l (some (64, false, 1)) := aarr_eq' Tryd.arr38
theorem Tryd.buildA38 {ps : List (Nat × Value)} : abuild Tryd.prog 38 ps = mkBuildA ps (some ((Array.replicate 64 (Value.int IntKind.u32 (0))))) (some (64, false, 1)) := abuildA_eq' Tryd.zero38 Tryd.arr38
theorem Tryd.arr45 : arr Tryd.prog 45 = some (0, false, 1) := by kernel_rfl
theorem Tryd.index45 {c : Array Value} {k : IntKind} {i : Int} : aindex Tryd.prog 45 (.agg c) (.int k i) = mkIndex c i (some (0, false, 1)) := aindex_eq' Tryd.arr45
theorem Tryd.indexA45 {b o : Nat} {k : IntKind} {i : Int} : aindexAddr Tryd.prog 45 (.pointer (some ⟨b, o, none⟩)) (.int k i) = mkIndexA b o i (some (0, false, 1)) := aindexA_eq' Tryd.arr45
theorem Tryd.indexF45 {c : Array Value} {n : Nat} {k : IntKind} {i : Int} : aindexAddr Tryd.prog 45 (fp c n) (.int k i) = mkIndexF c n i (some (0, false, 1)) := aindexAddr_fp Tryd.arr45
theorem Tryd.sliceF45 {h : AH} {c : Array Value} {n : Nat} {lo hi : Option Value} : aslice Tryd.prog h 45 (fp c n) lo hi = mkSliceF c n lo hi (some (0, false, 1)) := aslice_fp Tryd.arr45
theorem Tryd.arrptrZ45 {c : Array Value} {n : Nat} : aarrayPtr Tryd.prog 45 (fz c n) = if 0 ≤ n ∧ 0 < n then some (fp c 0) else none := aarr_fz Tryd.arr45
theorem Tryd.lenA45 {h : AH} {x : Value} : alen Tryd.prog h 45 x = some (.int .i64 0) := alenA_eq' Tryd.arr45
theorem Tryd.sliceA45 {h : AH} {b o : Nat} {lo hi : Option Value} : aslice Tryd.prog h 45 (.pointer (some ⟨b, o, none⟩)) lo hi = mkSliceA b o lo hi (some (0, false, 1)) := asliceA_eq' Tryd.arr45
theorem Tryd.arrptr45 {b o l c : Nat} : aarrayPtr Tryd.prog 45 (.slice (some ⟨b, o, none⟩) l c) = mkArrPtr b o l (some (0, false, 1)) := aarr_eq' Tryd.arr45
theorem Tryd.slc22 : slc Tryd.prog 22 = some (false, 1, 1) := by kernel_rfl
theorem Tryd.indexS22 {b o l c : Nat} {k : IntKind} {i : Int} : aindexAddr Tryd.prog 22 (.slice (some ⟨b, o, none⟩) l c) (.int k i) = mkIndexS b o l i (some (false, 1, 1)) := aindexS_eq' Tryd.slc22
theorem Tryd.indexZ22 {c : Array Value} {n : Nat} {k : IntKind} {i : Int} : aindexAddr Tryd.prog 22 (fz c n) (.int k i) = mkIndexZ c n i (some (false, 1, 1)) := aindexAddr_fz Tryd.slc22
theorem Tryd.indexV22 {α : Type} {enc : α → List Value} {s : Sl α} {k : IntKind} {i : Int} : aindexAddr Tryd.prog 22 (slV enc s) (.int k i) = mkIndexZ (flatV enc s.l) s.l.length i (some (false, 1, 1)) := aindex_slV Tryd.slc22
theorem Tryd.lenZ22 {h : AH} {c : Array Value} {n : Nat} : alen Tryd.prog h 22 (fz c n) = some (.int .i64 n) := alen_fz Tryd.slc22
theorem Tryd.lenV22 {h : AH} {α : Type} {enc : α → List Value} {s : Sl α} : alen Tryd.prog h 22 (slV enc s) = some (.int .i64 (s.l.length : Nat)) := alen_slV Tryd.slc22
theorem Tryd.lenO22 {h : AH} {α : Type} {l : List α} {b : Nat} : alen Tryd.prog h 22 (outV b l) = some (.int .i64 (l.length : Nat)) := alen_outV Tryd.slc22
theorem Tryd.indexO22 {α : Type} {l : List α} {b : Nat} {k : IntKind} {i : Int} : aindexAddr Tryd.prog 22 (outV b l) (.int k i) = if 0 ≤ i ∧ i < l.length then some (.pointer (some ⟨b, i.toNat * 1, none⟩)) else none := aindex_outV Tryd.slc22
theorem Tryd.sliceV22 {h : AH} {α : Type} {enc : α → List Value} {s : Sl α} {lo hi : Option Value} (hm : ∀ x, (enc x).length = 1) : aslice Tryd.prog h 22 (slV enc s) lo hi = (abounds s.l.length s.l.length lo hi).map fun p => slV enc (s.piece p.1 p.2) := aslice_slV Tryd.slc22 hm
theorem Tryd.sliceZ22 {h : AH} {c : Array Value} {n : Nat} {lo hi : Option Value} : aslice Tryd.prog h 22 (fz c n) lo hi = mkSliceZ c n lo hi (some (false, 1, 1)) := aslice_fz Tryd.slc22
theorem Tryd.len22 {h : AH} {a : Option Addr} {l c : Nat} : alen Tryd.prog h 22 (.slice a l c) = some (.int .i64 l) := alen_eq' Tryd.slc22
theorem Tryd.sliceS22 {h : AH} {b o l c : Nat} {lo hi : Option Value} : aslice Tryd.prog h 22 (.slice (some ⟨b, o, none⟩) l c) lo hi = mkSliceS b o l c lo hi (some (false, 1, 1)) h[b]? := asliceS_eq' Tryd.slc22
theorem Tryd.sliceN22 {h : AH} {lo hi : Option Value} : aslice Tryd.prog h 22 (.slice none 0 0) lo hi = (abounds 0 0 lo hi).map fun _ => .slice none 0 0 := asliceN_eq' Tryd.slc22
theorem Tryd.slz22 : slz Tryd.prog 22 = some (#[Value.int IntKind.u8 (0)]) := by kernel_rfl
theorem Tryd.buildS22 {h : AH} {n : Nat} {ps : List (Nat × Value)} : abuildSlice Tryd.prog h 22 n ps = mkBuildS h n ps (some (#[Value.int IntKind.u8 (0)])) := abuildS_eq' Tryd.slz22
theorem Tryd.make22 {h : AH} {i n : Int} : amakeSlice Tryd.prog h 22 (.int .i64 i) (.int .i64 n) = mkMake h i n (some (false, 1, 1)) (some (#[Value.int IntKind.u8 (0)])) := amake_eq' Tryd.slc22 Tryd.slz22
theorem Tryd.append22 {h : AH} {u : TypeId} {s x : Value} (hn : nint Tryd.prog u = true) : aappend Tryd.prog h 22 u s x = mkApp h s (some (false, 1, 1)) (mkSrc h x (some (false, 1, 1)) true) := aappend_eq' Tryd.slc22 Tryd.slz22 hn
theorem Tryd.slc35 : slc Tryd.prog 35 = some (false, 1, 4) := by kernel_rfl
theorem Tryd.indexS35 {b o l c : Nat} {k : IntKind} {i : Int} : aindexAddr Tryd.prog 35 (.slice (some ⟨b, o, none⟩) l c) (.int k i) = mkIndexS b o l i (some (false, 1, 4)) := aindexS_eq' Tryd.slc35
theorem Tryd.indexZ35 {c : Array Value} {n : Nat} {k : IntKind} {i : Int} : aindexAddr Tryd.prog 35 (fz c n) (.int k i) = mkIndexZ c n i (some (false, 1, 4)) := aindexAddr_fz Tryd.slc35
theorem Tryd.indexV35 {α : Type} {enc : α → List Value} {s : Sl α} {k : IntKind} {i : Int} : aindexAddr Tryd.prog 35 (slV enc s) (.int k i) = mkIndexZ (flatV enc s.l) s.l.length i (some (false, 1, 4)) := aindex_slV Tryd.slc35
theorem Tryd.lenZ35 {h : AH} {c : Array Value} {n : Nat} : alen Tryd.prog h 35 (fz c n) = some (.int .i64 n) := alen_fz Tryd.slc35
theorem Tryd.lenV35 {h : AH} {α : Type} {enc : α → List Value} {s : Sl α} : alen Tryd.prog h 35 (slV enc s) = some (.int .i64 (s.l.length : Nat)) := alen_slV Tryd.slc35
theorem Tryd.lenO35 {h : AH} {α : Type} {l : List α} {b : Nat} : alen Tryd.prog h 35 (outV b l) = some (.int .i64 (l.length : Nat)) := alen_outV Tryd.slc35
theorem Tryd.indexO35 {α : Type} {l : List α} {b : Nat} {k : IntKind} {i : Int} : aindexAddr Tryd.prog 35 (outV b l) (.int k i) = if 0 ≤ i ∧ i < l.length then some (.pointer (some ⟨b, i.toNat * 1, none⟩)) else none := aindex_outV Tryd.slc35
theorem Tryd.sliceV35 {h : AH} {α : Type} {enc : α → List Value} {s : Sl α} {lo hi : Option Value} (hm : ∀ x, (enc x).length = 1) : aslice Tryd.prog h 35 (slV enc s) lo hi = (abounds s.l.length s.l.length lo hi).map fun p => slV enc (s.piece p.1 p.2) := aslice_slV Tryd.slc35 hm
theorem Tryd.sliceZ35 {h : AH} {c : Array Value} {n : Nat} {lo hi : Option Value} : aslice Tryd.prog h 35 (fz c n) lo hi = mkSliceZ c n lo hi (some (false, 1, 4)) := aslice_fz Tryd.slc35
theorem Tryd.len35 {h : AH} {a : Option Addr} {l c : Nat} : alen Tryd.prog h 35 (.slice a l c) = some (.int .i64 l) := alen_eq' Tryd.slc35
theorem Tryd.sliceS35 {h : AH} {b o l c : Nat} {lo hi : Option Value} : aslice Tryd.prog h 35 (.slice (some ⟨b, o, none⟩) l c) lo hi = mkSliceS b o l c lo hi (some (false, 1, 4)) h[b]? := asliceS_eq' Tryd.slc35
theorem Tryd.sliceN35 {h : AH} {lo hi : Option Value} : aslice Tryd.prog h 35 (.slice none 0 0) lo hi = (abounds 0 0 lo hi).map fun _ => .slice none 0 0 := asliceN_eq' Tryd.slc35
theorem Tryd.slz35 : slz Tryd.prog 35 = some (#[Value.int IntKind.u32 (0)]) := by kernel_rfl
theorem Tryd.buildS35 {h : AH} {n : Nat} {ps : List (Nat × Value)} : abuildSlice Tryd.prog h 35 n ps = mkBuildS h n ps (some (#[Value.int IntKind.u32 (0)])) := abuildS_eq' Tryd.slz35
theorem Tryd.make35 {h : AH} {i n : Int} : amakeSlice Tryd.prog h 35 (.int .i64 i) (.int .i64 n) = mkMake h i n (some (false, 1, 4)) (some (#[Value.int IntKind.u32 (0)])) := amake_eq' Tryd.slc35 Tryd.slz35
theorem Tryd.append35 {h : AH} {u : TypeId} {s x : Value} (hn : nint Tryd.prog u = true) : aappend Tryd.prog h 35 u s x = mkApp h s (some (false, 1, 4)) (mkSrc h x (some (false, 1, 4)) true) := aappend_eq' Tryd.slc35 Tryd.slz35 hn
theorem Tryd.intk2 : intk Tryd.prog 2 = some IntKind.i64 := by kernel_rfl
theorem Tryd.conv2 {h : AH} {u : TypeId} {k : IntKind} {n : Int} (hs : (tyc Tryd.prog u).isSome = true) : aconvert Tryd.prog h u 2 (.int k n) = some (.int IntKind.i64 (IntKind.i64.wrap n), h) := aconvI_eq' Tryd.intk2 hs
theorem Tryd.intk3 : intk Tryd.prog 3 = some IntKind.i64 := by kernel_rfl
theorem Tryd.conv3 {h : AH} {u : TypeId} {k : IntKind} {n : Int} (hs : (tyc Tryd.prog u).isSome = true) : aconvert Tryd.prog h u 3 (.int k n) = some (.int IntKind.i64 (IntKind.i64.wrap n), h) := aconvI_eq' Tryd.intk3 hs
theorem Tryd.intk5 : intk Tryd.prog 5 = some IntKind.u8 := by kernel_rfl
theorem Tryd.conv5 {h : AH} {u : TypeId} {k : IntKind} {n : Int} (hs : (tyc Tryd.prog u).isSome = true) : aconvert Tryd.prog h u 5 (.int k n) = some (.int IntKind.u8 (IntKind.u8.wrap n), h) := aconvI_eq' Tryd.intk5 hs
theorem Tryd.intk6 : intk Tryd.prog 6 = some IntKind.u8 := by kernel_rfl
theorem Tryd.conv6 {h : AH} {u : TypeId} {k : IntKind} {n : Int} (hs : (tyc Tryd.prog u).isSome = true) : aconvert Tryd.prog h u 6 (.int k n) = some (.int IntKind.u8 (IntKind.u8.wrap n), h) := aconvI_eq' Tryd.intk6 hs
theorem Tryd.intk12 : intk Tryd.prog 12 = some IntKind.u64 := by kernel_rfl
theorem Tryd.conv12 {h : AH} {u : TypeId} {k : IntKind} {n : Int} (hs : (tyc Tryd.prog u).isSome = true) : aconvert Tryd.prog h u 12 (.int k n) = some (.int IntKind.u64 (IntKind.u64.wrap n), h) := aconvI_eq' Tryd.intk12 hs
theorem Tryd.intk21 : intk Tryd.prog 21 = some IntKind.i32 := by kernel_rfl
theorem Tryd.conv21 {h : AH} {u : TypeId} {k : IntKind} {n : Int} (hs : (tyc Tryd.prog u).isSome = true) : aconvert Tryd.prog h u 21 (.int k n) = some (.int IntKind.i32 (IntKind.i32.wrap n), h) := aconvI_eq' Tryd.intk21 hs
theorem Tryd.intk24 : intk Tryd.prog 24 = some IntKind.u64 := by kernel_rfl
theorem Tryd.conv24 {h : AH} {u : TypeId} {k : IntKind} {n : Int} (hs : (tyc Tryd.prog u).isSome = true) : aconvert Tryd.prog h u 24 (.int k n) = some (.int IntKind.u64 (IntKind.u64.wrap n), h) := aconvI_eq' Tryd.intk24 hs
theorem Tryd.intk29 : intk Tryd.prog 29 = some IntKind.u32 := by kernel_rfl
theorem Tryd.conv29 {h : AH} {u : TypeId} {k : IntKind} {n : Int} (hs : (tyc Tryd.prog u).isSome = true) : aconvert Tryd.prog h u 29 (.int k n) = some (.int IntKind.u32 (IntKind.u32.wrap n), h) := aconvI_eq' Tryd.intk29 hs
theorem Tryd.intk34 : intk Tryd.prog 34 = some IntKind.u64 := by kernel_rfl
theorem Tryd.conv34 {h : AH} {u : TypeId} {k : IntKind} {n : Int} (hs : (tyc Tryd.prog u).isSome = true) : aconvert Tryd.prog h u 34 (.int k n) = some (.int IntKind.u64 (IntKind.u64.wrap n), h) := aconvI_eq' Tryd.intk34 hs
theorem Tryd.intk49 : intk Tryd.prog 49 = some IntKind.u8 := by kernel_rfl
theorem Tryd.conv49 {h : AH} {u : TypeId} {k : IntKind} {n : Int} (hs : (tyc Tryd.prog u).isSome = true) : aconvert Tryd.prog h u 49 (.int k n) = some (.int IntKind.u8 (IntKind.u8.wrap n), h) := aconvI_eq' Tryd.intk49 hs
theorem Tryd.intk50 : intk Tryd.prog 50 = some IntKind.u8 := by kernel_rfl
theorem Tryd.conv50 {h : AH} {u : TypeId} {k : IntKind} {n : Int} (hs : (tyc Tryd.prog u).isSome = true) : aconvert Tryd.prog h u 50 (.int k n) = some (.int IntKind.u8 (IntKind.u8.wrap n), h) := aconvI_eq' Tryd.intk50 hs
theorem Tryd.intk53 : intk Tryd.prog 53 = some IntKind.i32 := by kernel_rfl
theorem Tryd.conv53 {h : AH} {u : TypeId} {k : IntKind} {n : Int} (hs : (tyc Tryd.prog u).isSome = true) : aconvert Tryd.prog h u 53 (.int k n) = some (.int IntKind.i32 (IntKind.i32.wrap n), h) := aconvI_eq' Tryd.intk53 hs
theorem Tryd.intk54 : intk Tryd.prog 54 = some IntKind.i32 := by kernel_rfl
theorem Tryd.conv54 {h : AH} {u : TypeId} {k : IntKind} {n : Int} (hs : (tyc Tryd.prog u).isSome = true) : aconvert Tryd.prog h u 54 (.int k n) = some (.int IntKind.i32 (IntKind.i32.wrap n), h) := aconvI_eq' Tryd.intk54 hs
theorem Tryd.nint9 : nint Tryd.prog 9 = true := by kernel_rfl
theorem Tryd.nint10 : nint Tryd.prog 10 = true := by kernel_rfl
theorem Tryd.nint11 : nint Tryd.prog 11 = true := by kernel_rfl
theorem Tryd.nint22 : nint Tryd.prog 22 = true := by kernel_rfl
theorem Tryd.nint35 : nint Tryd.prog 35 = true := by kernel_rfl
theorem Tryd.isStr9 : isStr Tryd.prog 9 = true := by kernel_rfl
theorem Tryd.lenT9 {h : AH} {s : ByteArray} : alen Tryd.prog h 9 (.string s) = some (.int .i64 s.size) := alenT_eq' Tryd.isStr9
theorem Tryd.sliceT9 {h : AH} {s : ByteArray} {lo hi : Option Value} : aslice Tryd.prog h 9 (.string s) lo hi = mkSliceT s lo hi true := asliceT_eq' Tryd.isStr9
theorem Tryd.isStr10 : isStr Tryd.prog 10 = true := by kernel_rfl
theorem Tryd.lenT10 {h : AH} {s : ByteArray} : alen Tryd.prog h 10 (.string s) = some (.int .i64 s.size) := alenT_eq' Tryd.isStr10
theorem Tryd.sliceT10 {h : AH} {s : ByteArray} {lo hi : Option Value} : aslice Tryd.prog h 10 (.string s) lo hi = mkSliceT s lo hi true := asliceT_eq' Tryd.isStr10
theorem Tryd.isStr11 : isStr Tryd.prog 11 = true := by kernel_rfl
theorem Tryd.lenT11 {h : AH} {s : ByteArray} : alen Tryd.prog h 11 (.string s) = some (.int .i64 s.size) := alenT_eq' Tryd.isStr11
theorem Tryd.sliceT11 {h : AH} {s : ByteArray} {lo hi : Option Value} : aslice Tryd.prog h 11 (.string s) lo hi = mkSliceT s lo hi true := asliceT_eq' Tryd.isStr11
theorem Tryd.isBool4 : isBool Tryd.prog 4 = true := by kernel_rfl
theorem Tryd.eqlB4 {x y : Operand} {a b : Bool} : abinOp Tryd.prog .eql 4 x y (.bool a) (.bool b) = some (.bool (a == b)) := abin_eqlB (isBool_u Tryd.isBool4) a b
theorem Tryd.neqB4 {x y : Operand} {a b : Bool} : abinOp Tryd.prog .neq 4 x y (.bool a) (.bool b) = some (.bool (!(a == b))) := abin_neqB (isBool_u Tryd.isBool4) a b
theorem Tryd.rowK25 : rowK Tryd.prog 25 = some (4, IntKind.u64) := by kernel_rfl
theorem Tryd.eqlR25 {x y : Operand} {a b : Word4} : abinOp Tryd.prog .eql 25 x y (.agg (encWord a).toArray) (.agg (encWord b).toArray) = some (.bool (decide (a = b))) := abin_eqlWord Tryd.rowK25 a b
theorem Tryd.neqR25 {x y : Operand} {a b : Word4} : abinOp Tryd.prog .neq 25 x y (.agg (encWord a).toArray) (.agg (encWord b).toArray) = some (.bool (!decide (a = b))) := abin_neqWord Tryd.rowK25 a b
theorem Tryd.rowK26 : rowK Tryd.prog 26 = some (4, IntKind.u64) := by kernel_rfl
theorem Tryd.eqlR26 {x y : Operand} {a b : Word4} : abinOp Tryd.prog .eql 26 x y (.agg (encWord a).toArray) (.agg (encWord b).toArray) = some (.bool (decide (a = b))) := abin_eqlWord Tryd.rowK26 a b
theorem Tryd.neqR26 {x y : Operand} {a b : Word4} : abinOp Tryd.prog .neq 26 x y (.agg (encWord a).toArray) (.agg (encWord b).toArray) = some (.bool (!decide (a = b))) := abin_neqWord Tryd.rowK26 a b
theorem Tryd.hb2 : hasBody Tryd.prog 2 = true := by kernel_rfl
theorem Tryd.hb3 : hasBody Tryd.prog 3 = true := by kernel_rfl
theorem Tryd.hb4 : hasBody Tryd.prog 4 = true := by kernel_rfl
theorem Tryd.hb5 : hasBody Tryd.prog 5 = true := by kernel_rfl
theorem Tryd.hb6 : hasBody Tryd.prog 6 = true := by kernel_rfl
theorem Tryd.hb7 : hasBody Tryd.prog 7 = true := by kernel_rfl
theorem Tryd.hb8 : hasBody Tryd.prog 8 = true := by kernel_rfl
theorem Tryd.hb9 : hasBody Tryd.prog 9 = true := by kernel_rfl
theorem Tryd.hb10 : hasBody Tryd.prog 10 = true := by kernel_rfl
theorem Tryd.hb11 : hasBody Tryd.prog 11 = true := by kernel_rfl
theorem Tryd.hb12 : hasBody Tryd.prog 12 = true := by kernel_rfl
theorem Tryd.hb13 : hasBody Tryd.prog 13 = true := by kernel_rfl
theorem Tryd.hb14 : hasBody Tryd.prog 14 = true := by kernel_rfl
theorem Tryd.hb15 : hasBody Tryd.prog 15 = true := by kernel_rfl
theorem Tryd.hb35 : hasBody Tryd.prog 35 = true := by kernel_rfl
attribute [go_sem] Tryd.load0 Tryd.loadF0 Tryd.store0 Tryd.some0 Tryd.load1 Tryd.loadF1 Tryd.store1 Tryd.some1 Tryd.load2 Tryd.loadF2 Tryd.store2 Tryd.some2 Tryd.load3 Tryd.loadF3 Tryd.store3 Tryd.some3 Tryd.load4 Tryd.loadF4 Tryd.store4 Tryd.some4 Tryd.load5 Tryd.loadF5 Tryd.store5 Tryd.some5 Tryd.load6 Tryd.loadF6 Tryd.store6 Tryd.some6 Tryd.load7 Tryd.loadF7 Tryd.store7 Tryd.some7 Tryd.load8 Tryd.loadF8 Tryd.store8 Tryd.some8 Tryd.load9 Tryd.loadF9 Tryd.store9 Tryd.some9
attribute [go_sem] Tryd.load10 Tryd.loadF10 Tryd.store10 Tryd.some10 Tryd.load11 Tryd.loadF11 Tryd.store11 Tryd.some11 Tryd.load12 Tryd.loadF12 Tryd.store12 Tryd.some12 Tryd.load13 Tryd.loadF13 Tryd.store13 Tryd.some13 Tryd.load14 Tryd.loadF14 Tryd.store14 Tryd.some14 Tryd.load15 Tryd.loadF15 Tryd.store15 Tryd.some15 Tryd.load16 Tryd.loadF16 Tryd.store16 Tryd.some16 Tryd.load17 Tryd.loadF17 Tryd.store17 Tryd.some17 Tryd.load18 Tryd.loadF18 Tryd.store18 Tryd.some18 Tryd.load19 Tryd.loadF19 Tryd.store19 Tryd.some19
attribute [go_sem] Tryd.load20 Tryd.loadF20 Tryd.store20 Tryd.some20 Tryd.load21 Tryd.loadF21 Tryd.store21 Tryd.some21 Tryd.load22 Tryd.loadF22 Tryd.store22 Tryd.some22 Tryd.load23 Tryd.loadF23 Tryd.store23 Tryd.some23 Tryd.load24 Tryd.loadF24 Tryd.store24 Tryd.some24 Tryd.load25 Tryd.loadF25 Tryd.store25 Tryd.some25 Tryd.load26 Tryd.loadF26 Tryd.store26 Tryd.some26 Tryd.load27 Tryd.loadF27 Tryd.store27 Tryd.some27 Tryd.load28 Tryd.loadF28 Tryd.store28 Tryd.some28 Tryd.load29 Tryd.loadF29 Tryd.store29 Tryd.some29
attribute [go_sem] Tryd.load30 Tryd.loadF30 Tryd.store30 Tryd.some30 Tryd.load31 Tryd.loadF31 Tryd.store31 Tryd.some31 Tryd.load32 Tryd.loadF32 Tryd.store32 Tryd.some32 Tryd.load33 Tryd.loadF33 Tryd.store33 Tryd.some33 Tryd.load34 Tryd.loadF34 Tryd.store34 Tryd.some34 Tryd.load35 Tryd.loadF35 Tryd.store35 Tryd.some35 Tryd.load36 Tryd.loadF36 Tryd.store36 Tryd.some36 Tryd.load37 Tryd.loadF37 Tryd.store37 Tryd.some37 Tryd.load38 Tryd.loadF38 Tryd.store38 Tryd.some38 Tryd.load39 Tryd.loadF39 Tryd.store39 Tryd.some39
attribute [go_sem] Tryd.load40 Tryd.loadF40 Tryd.store40 Tryd.some40 Tryd.load41 Tryd.loadF41 Tryd.store41 Tryd.some41 Tryd.load42 Tryd.loadF42 Tryd.store42 Tryd.some42 Tryd.load43 Tryd.loadF43 Tryd.store43 Tryd.some43 Tryd.load44 Tryd.loadF44 Tryd.store44 Tryd.some44 Tryd.load45 Tryd.loadF45 Tryd.store45 Tryd.some45 Tryd.load46 Tryd.loadF46 Tryd.store46 Tryd.some46 Tryd.load47 Tryd.loadF47 Tryd.store47 Tryd.some47 Tryd.load48 Tryd.loadF48 Tryd.store48 Tryd.some48 Tryd.load49 Tryd.loadF49 Tryd.store49 Tryd.some49
attribute [go_sem] Tryd.load50 Tryd.loadF50 Tryd.store50 Tryd.some50 Tryd.load51 Tryd.loadF51 Tryd.store51 Tryd.some51 Tryd.load52 Tryd.loadF52 Tryd.store52 Tryd.some52 Tryd.load53 Tryd.loadF53 Tryd.store53 Tryd.some53 Tryd.load54 Tryd.loadF54 Tryd.store54 Tryd.some54 Tryd.load55 Tryd.loadF55 Tryd.store55 Tryd.some55 Tryd.load56 Tryd.loadF56 Tryd.store56 Tryd.some56 Tryd.load57 Tryd.loadF57 Tryd.store57 Tryd.some57 Tryd.fieldAddr7_0 Tryd.fieldAddrF7_0 Tryd.field7_0 Tryd.fieldAddr7_1 Tryd.fieldAddrF7_1 Tryd.field7_1 Tryd.fieldAddr7_2 Tryd.fieldAddrF7_2
attribute [go_sem] Tryd.field7_2 Tryd.fieldAddr7_3 Tryd.fieldAddrF7_3 Tryd.field7_3 Tryd.fieldAddr8_0 Tryd.fieldAddrF8_0 Tryd.field8_0 Tryd.fieldAddr8_1 Tryd.fieldAddrF8_1 Tryd.field8_1 Tryd.fieldAddr8_2 Tryd.fieldAddrF8_2 Tryd.field8_2 Tryd.fieldAddr8_3 Tryd.fieldAddrF8_3 Tryd.field8_3 Tryd.fieldAddr13_0 Tryd.fieldAddrF13_0 Tryd.field13_0 Tryd.fieldAddr13_1 Tryd.fieldAddrF13_1 Tryd.field13_1 Tryd.fieldAddr14_0 Tryd.fieldAddrF14_0 Tryd.field14_0 Tryd.fieldAddr14_1 Tryd.fieldAddrF14_1 Tryd.field14_1 Tryd.fieldAddr18_0 Tryd.fieldAddrF18_0 Tryd.field18_0 Tryd.fieldAddr19_0 Tryd.fieldAddrF19_0 Tryd.field19_0 Tryd.fieldAddr43_0 Tryd.fieldAddrF43_0 Tryd.field43_0 Tryd.fieldAddr43_1 Tryd.fieldAddrF43_1 Tryd.field43_1
attribute [go_sem] Tryd.fieldAddr43_2 Tryd.fieldAddrF43_2 Tryd.field43_2 Tryd.fieldAddr43_3 Tryd.fieldAddrF43_3 Tryd.field43_3 Tryd.fieldAddr44_0 Tryd.fieldAddrF44_0 Tryd.field44_0 Tryd.fieldAddr44_1 Tryd.fieldAddrF44_1 Tryd.field44_1 Tryd.fieldAddr44_2 Tryd.fieldAddrF44_2 Tryd.field44_2 Tryd.fieldAddr44_3 Tryd.fieldAddrF44_3 Tryd.field44_3 Tryd.fieldAddr46_0 Tryd.fieldAddrF46_0 Tryd.field46_0 Tryd.fieldAddr47_0 Tryd.fieldAddrF47_0 Tryd.field47_0 Tryd.fieldAddr55_0 Tryd.fieldAddrF55_0 Tryd.field55_0 Tryd.fieldAddr55_1 Tryd.fieldAddrF55_1 Tryd.field55_1 Tryd.fieldAddr55_2 Tryd.fieldAddrF55_2 Tryd.field55_2 Tryd.fieldAddr55_3 Tryd.fieldAddrF55_3 Tryd.field55_3 Tryd.fieldAddr55_4 Tryd.fieldAddrF55_4 Tryd.field55_4 Tryd.fieldAddr55_5
attribute [go_sem] Tryd.fieldAddrF55_5 Tryd.field55_5 Tryd.fieldAddr55_6 Tryd.fieldAddrF55_6 Tryd.field55_6 Tryd.fieldAddr55_7 Tryd.fieldAddrF55_7 Tryd.field55_7 Tryd.fieldAddr55_8 Tryd.fieldAddrF55_8 Tryd.field55_8 Tryd.fieldAddr55_9 Tryd.fieldAddrF55_9 Tryd.field55_9 Tryd.fieldAddr55_10 Tryd.fieldAddrF55_10 Tryd.field55_10 Tryd.fieldAddr56_0 Tryd.fieldAddrF56_0 Tryd.field56_0 Tryd.fieldAddr56_1 Tryd.fieldAddrF56_1 Tryd.field56_1 Tryd.fieldAddr56_2 Tryd.fieldAddrF56_2 Tryd.field56_2 Tryd.fieldAddr56_3 Tryd.fieldAddrF56_3 Tryd.field56_3 Tryd.fieldAddr56_4 Tryd.fieldAddrF56_4 Tryd.field56_4 Tryd.fieldAddr56_5 Tryd.fieldAddrF56_5 Tryd.field56_5 Tryd.fieldAddr56_6 Tryd.fieldAddrF56_6 Tryd.field56_6 Tryd.fieldAddr56_7 Tryd.fieldAddrF56_7
attribute [go_sem] Tryd.field56_7 Tryd.fieldAddr56_8 Tryd.fieldAddrF56_8 Tryd.field56_8 Tryd.fieldAddr56_9 Tryd.fieldAddrF56_9 Tryd.field56_9 Tryd.fieldAddr56_10 Tryd.fieldAddrF56_10 Tryd.field56_10 Tryd.alloc1 Tryd.alloc2 Tryd.alloc3 Tryd.alloc4 Tryd.alloc5 Tryd.alloc6 Tryd.alloc7 Tryd.alloc8 Tryd.alloc9 Tryd.alloc10 Tryd.alloc11 Tryd.alloc12 Tryd.alloc13 Tryd.alloc14 Tryd.alloc15 Tryd.alloc16 Tryd.alloc17 Tryd.alloc18 Tryd.alloc19 Tryd.alloc20 Tryd.alloc21 Tryd.alloc22 Tryd.alloc23 Tryd.alloc24 Tryd.alloc25 Tryd.alloc26 Tryd.alloc27 Tryd.alloc28 Tryd.alloc29 Tryd.alloc30
attribute [go_sem] Tryd.alloc31 Tryd.alloc32 Tryd.alloc33 Tryd.alloc34 Tryd.alloc35 Tryd.alloc36 Tryd.alloc37 Tryd.alloc38 Tryd.alloc39 Tryd.alloc40 Tryd.alloc41 Tryd.alloc42 Tryd.alloc43 Tryd.alloc44 Tryd.alloc48 Tryd.alloc49 Tryd.alloc50 Tryd.alloc51 Tryd.alloc52 Tryd.alloc53 Tryd.alloc54 Tryd.alloc55 Tryd.alloc56 Tryd.alloc57 Tryd.build7 Tryd.build8 Tryd.build13 Tryd.build14 Tryd.build18 Tryd.build19 Tryd.build43 Tryd.build44 Tryd.build55 Tryd.build56 Tryd.index25 Tryd.indexA25 Tryd.indexF25 Tryd.sliceF25 Tryd.arrptrZ25 Tryd.lenA25
attribute [go_sem] Tryd.sliceA25 Tryd.arrptr25 Tryd.buildA25 Tryd.index26 Tryd.indexA26 Tryd.indexF26 Tryd.sliceF26 Tryd.arrptrZ26 Tryd.lenA26 Tryd.sliceA26 Tryd.arrptr26 Tryd.buildA26 Tryd.index30 Tryd.indexA30 Tryd.indexF30 Tryd.sliceF30 Tryd.arrptrZ30 Tryd.lenA30 Tryd.sliceA30 Tryd.arrptr30 Tryd.buildA30 Tryd.index31 Tryd.indexA31 Tryd.indexF31 Tryd.sliceF31 Tryd.arrptrZ31 Tryd.lenA31 Tryd.sliceA31 Tryd.arrptr31 Tryd.buildA31 Tryd.index33 Tryd.indexA33 Tryd.indexF33 Tryd.sliceF33 Tryd.arrptrZ33 Tryd.lenA33 Tryd.sliceA33 Tryd.arrptr33 Tryd.buildA33 Tryd.index38
attribute [go_sem] Tryd.indexA38 Tryd.indexF38 Tryd.sliceF38 Tryd.arrptrZ38 Tryd.lenA38 Tryd.sliceA38 Tryd.arrptr38 Tryd.buildA38 Tryd.index45 Tryd.indexA45 Tryd.indexF45 Tryd.sliceF45 Tryd.arrptrZ45 Tryd.lenA45 Tryd.sliceA45 Tryd.arrptr45 Tryd.indexS22 Tryd.indexZ22 Tryd.indexV22 Tryd.lenZ22 Tryd.lenV22 Tryd.lenO22 Tryd.indexO22 Tryd.sliceV22 Tryd.sliceZ22 Tryd.len22 Tryd.sliceS22 Tryd.sliceN22 Tryd.buildS22 Tryd.make22 Tryd.append22 Tryd.indexS35 Tryd.indexZ35 Tryd.indexV35 Tryd.lenZ35 Tryd.lenV35 Tryd.lenO35 Tryd.indexO35 Tryd.sliceV35 Tryd.sliceZ35
attribute [go_sem] Tryd.len35 Tryd.sliceS35 Tryd.sliceN35 Tryd.buildS35 Tryd.make35 Tryd.append35 Tryd.conv2 Tryd.conv3 Tryd.conv5 Tryd.conv6 Tryd.conv12 Tryd.conv21 Tryd.conv24 Tryd.conv29 Tryd.conv34 Tryd.conv49 Tryd.conv50 Tryd.conv53 Tryd.conv54 Tryd.nint9 Tryd.nint10 Tryd.nint11 Tryd.nint22 Tryd.nint35 Tryd.lenT9 Tryd.sliceT9 Tryd.lenT10 Tryd.sliceT10 Tryd.lenT11 Tryd.sliceT11 Tryd.eqlB4 Tryd.neqB4 Tryd.eqlR25 Tryd.neqR25 Tryd.eqlR26 Tryd.neqR26 Tryd.hb2 Tryd.hb3 Tryd.hb4 Tryd.hb5
attribute [go_sem] Tryd.hb6 Tryd.hb7 Tryd.hb8 Tryd.hb9 Tryd.hb10 Tryd.hb11 Tryd.hb12 Tryd.hb13 Tryd.hb14 Tryd.hb15 Tryd.hb35
end Go.Proofs
