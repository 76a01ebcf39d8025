import Derived.Test.YtljobcehngpicaaDoorAm37x
import Derived.Test.YtljobcehngpicaaDoorProg
import Derived.KernelRfl
/- Closed facts of the types and functions. -/
namespace Go.Proofs
open Go Go.Am
theorem Tryd.tyc0 : tyc Tryd.prog 0 = some (false, 1) := by kernel_rfl
theorem Tryd.load0 {h : AH} {b o : Nat} : aload Tryd.prog h 0 (.pointer (some ⟨b, o, none⟩)) = mkLoad o (some (false, 1)) h[b]? := aload_eq Tryd.tyc0
theorem Tryd.loadF0 {h : AH} {c : Array Value} {n : Nat} : aload Tryd.prog h 0 (fp c n) = mkLoadF c n (some (false, 1)) := aload_fp Tryd.tyc0
theorem Tryd.store0 {h : AH} {b o : Nat} {v : Value} : astore Tryd.prog h 0 (.pointer (some ⟨b, o, none⟩)) v = mkStore h b o v (some (false, 1)) h[b]? := astore_eq' Tryd.tyc0
theorem Tryd.some0 : (tyc Tryd.prog 0).isSome = true := by rw [Tryd.tyc0]; rfl
theorem Tryd.tyc1 : tyc Tryd.prog 1 = some (false, 1) := by kernel_rfl
theorem Tryd.load1 {h : AH} {b o : Nat} : aload Tryd.prog h 1 (.pointer (some ⟨b, o, none⟩)) = mkLoad o (some (false, 1)) h[b]? := aload_eq Tryd.tyc1
theorem Tryd.loadF1 {h : AH} {c : Array Value} {n : Nat} : aload Tryd.prog h 1 (fp c n) = mkLoadF c n (some (false, 1)) := aload_fp Tryd.tyc1
theorem Tryd.store1 {h : AH} {b o : Nat} {v : Value} : astore Tryd.prog h 1 (.pointer (some ⟨b, o, none⟩)) v = mkStore h b o v (some (false, 1)) h[b]? := astore_eq' Tryd.tyc1
theorem Tryd.some1 : (tyc Tryd.prog 1).isSome = true := by rw [Tryd.tyc1]; rfl
theorem Tryd.tyc2 : tyc Tryd.prog 2 = some (false, 1) := by kernel_rfl
theorem Tryd.load2 {h : AH} {b o : Nat} : aload Tryd.prog h 2 (.pointer (some ⟨b, o, none⟩)) = mkLoad o (some (false, 1)) h[b]? := aload_eq Tryd.tyc2
theorem Tryd.loadF2 {h : AH} {c : Array Value} {n : Nat} : aload Tryd.prog h 2 (fp c n) = mkLoadF c n (some (false, 1)) := aload_fp Tryd.tyc2
theorem Tryd.store2 {h : AH} {b o : Nat} {v : Value} : astore Tryd.prog h 2 (.pointer (some ⟨b, o, none⟩)) v = mkStore h b o v (some (false, 1)) h[b]? := astore_eq' Tryd.tyc2
theorem Tryd.some2 : (tyc Tryd.prog 2).isSome = true := by rw [Tryd.tyc2]; rfl
theorem Tryd.tyc3 : tyc Tryd.prog 3 = some (false, 1) := by kernel_rfl
theorem Tryd.load3 {h : AH} {b o : Nat} : aload Tryd.prog h 3 (.pointer (some ⟨b, o, none⟩)) = mkLoad o (some (false, 1)) h[b]? := aload_eq Tryd.tyc3
theorem Tryd.loadF3 {h : AH} {c : Array Value} {n : Nat} : aload Tryd.prog h 3 (fp c n) = mkLoadF c n (some (false, 1)) := aload_fp Tryd.tyc3
theorem Tryd.store3 {h : AH} {b o : Nat} {v : Value} : astore Tryd.prog h 3 (.pointer (some ⟨b, o, none⟩)) v = mkStore h b o v (some (false, 1)) h[b]? := astore_eq' Tryd.tyc3
theorem Tryd.some3 : (tyc Tryd.prog 3).isSome = true := by rw [Tryd.tyc3]; rfl
theorem Tryd.tyc4 : tyc Tryd.prog 4 = some (false, 1) := by kernel_rfl
theorem Tryd.load4 {h : AH} {b o : Nat} : aload Tryd.prog h 4 (.pointer (some ⟨b, o, none⟩)) = mkLoad o (some (false, 1)) h[b]? := aload_eq Tryd.tyc4
theorem Tryd.loadF4 {h : AH} {c : Array Value} {n : Nat} : aload Tryd.prog h 4 (fp c n) = mkLoadF c n (some (false, 1)) := aload_fp Tryd.tyc4
theorem Tryd.store4 {h : AH} {b o : Nat} {v : Value} : astore Tryd.prog h 4 (.pointer (some ⟨b, o, none⟩)) v = mkStore h b o v (some (false, 1)) h[b]? := astore_eq' Tryd.tyc4
theorem Tryd.some4 : (tyc Tryd.prog 4).isSome = true := by rw [Tryd.tyc4]; rfl
theorem Tryd.tyc5 : tyc Tryd.prog 5 = some (false, 1) := by kernel_rfl
theorem Tryd.load5 {h : AH} {b o : Nat} : aload Tryd.prog h 5 (.pointer (some ⟨b, o, none⟩)) = mkLoad o (some (false, 1)) h[b]? := aload_eq Tryd.tyc5
theorem Tryd.loadF5 {h : AH} {c : Array Value} {n : Nat} : aload Tryd.prog h 5 (fp c n) = mkLoadF c n (some (false, 1)) := aload_fp Tryd.tyc5
theorem Tryd.store5 {h : AH} {b o : Nat} {v : Value} : astore Tryd.prog h 5 (.pointer (some ⟨b, o, none⟩)) v = mkStore h b o v (some (false, 1)) h[b]? := astore_eq' Tryd.tyc5
theorem Tryd.some5 : (tyc Tryd.prog 5).isSome = true := by rw [Tryd.tyc5]; rfl
theorem Tryd.tyc6 : tyc Tryd.prog 6 = some (false, 1) := by kernel_rfl
theorem Tryd.load6 {h : AH} {b o : Nat} : aload Tryd.prog h 6 (.pointer (some ⟨b, o, none⟩)) = mkLoad o (some (false, 1)) h[b]? := aload_eq Tryd.tyc6
theorem Tryd.loadF6 {h : AH} {c : Array Value} {n : Nat} : aload Tryd.prog h 6 (fp c n) = mkLoadF c n (some (false, 1)) := aload_fp Tryd.tyc6
theorem Tryd.store6 {h : AH} {b o : Nat} {v : Value} : astore Tryd.prog h 6 (.pointer (some ⟨b, o, none⟩)) v = mkStore h b o v (some (false, 1)) h[b]? := astore_eq' Tryd.tyc6
theorem Tryd.some6 : (tyc Tryd.prog 6).isSome = true := by rw [Tryd.tyc6]; rfl
theorem Tryd.tyc7 : tyc Tryd.prog 7 = some (true, 4) := by kernel_rfl
theorem Tryd.load7 {h : AH} {b o : Nat} : aload Tryd.prog h 7 (.pointer (some ⟨b, o, none⟩)) = mkLoad o (some (true, 4)) h[b]? := aload_eq Tryd.tyc7
theorem Tryd.loadF7 {h : AH} {c : Array Value} {n : Nat} : aload Tryd.prog h 7 (fp c n) = mkLoadF c n (some (true, 4)) := aload_fp Tryd.tyc7
theorem Tryd.store7 {h : AH} {b o : Nat} {v : Value} : astore Tryd.prog h 7 (.pointer (some ⟨b, o, none⟩)) v = mkStore h b o v (some (true, 4)) h[b]? := astore_eq' Tryd.tyc7
theorem Tryd.some7 : (tyc Tryd.prog 7).isSome = true := by rw [Tryd.tyc7]; rfl
theorem Tryd.tyc8 : tyc Tryd.prog 8 = some (true, 4) := by kernel_rfl
theorem Tryd.load8 {h : AH} {b o : Nat} : aload Tryd.prog h 8 (.pointer (some ⟨b, o, none⟩)) = mkLoad o (some (true, 4)) h[b]? := aload_eq Tryd.tyc8
theorem Tryd.loadF8 {h : AH} {c : Array Value} {n : Nat} : aload Tryd.prog h 8 (fp c n) = mkLoadF c n (some (true, 4)) := aload_fp Tryd.tyc8
theorem Tryd.store8 {h : AH} {b o : Nat} {v : Value} : astore Tryd.prog h 8 (.pointer (some ⟨b, o, none⟩)) v = mkStore h b o v (some (true, 4)) h[b]? := astore_eq' Tryd.tyc8
theorem Tryd.some8 : (tyc Tryd.prog 8).isSome = true := by rw [Tryd.tyc8]; rfl
theorem Tryd.tyc9 : tyc Tryd.prog 9 = some (false, 1) := by kernel_rfl
theorem Tryd.load9 {h : AH} {b o : Nat} : aload Tryd.prog h 9 (.pointer (some ⟨b, o, none⟩)) = mkLoad o (some (false, 1)) h[b]? := aload_eq Tryd.tyc9
theorem Tryd.loadF9 {h : AH} {c : Array Value} {n : Nat} : aload Tryd.prog h 9 (fp c n) = mkLoadF c n (some (false, 1)) := aload_fp Tryd.tyc9
theorem Tryd.store9 {h : AH} {b o : Nat} {v : Value} : astore Tryd.prog h 9 (.pointer (some ⟨b, o, none⟩)) v = mkStore h b o v (some (false, 1)) h[b]? := astore_eq' Tryd.tyc9
theorem Tryd.some9 : (tyc Tryd.prog 9).isSome = true := by rw [Tryd.tyc9]; rfl
theorem Tryd.tyc10 : tyc Tryd.prog 10 = some (false, 1) := by kernel_rfl
theorem Tryd.load10 {h : AH} {b o : Nat} : aload Tryd.prog h 10 (.pointer (some ⟨b, o, none⟩)) = mkLoad o (some (false, 1)) h[b]? := aload_eq Tryd.tyc10
theorem Tryd.loadF10 {h : AH} {c : Array Value} {n : Nat} : aload Tryd.prog h 10 (fp c n) = mkLoadF c n (some (false, 1)) := aload_fp Tryd.tyc10
theorem Tryd.store10 {h : AH} {b o : Nat} {v : Value} : astore Tryd.prog h 10 (.pointer (some ⟨b, o, none⟩)) v = mkStore h b o v (some (false, 1)) h[b]? := astore_eq' Tryd.tyc10
theorem Tryd.some10 : (tyc Tryd.prog 10).isSome = true := by rw [Tryd.tyc10]; rfl
theorem Tryd.tyc11 : tyc Tryd.prog 11 = some (false, 1) := by kernel_rfl
theorem Tryd.load11 {h : AH} {b o : Nat} : aload Tryd.prog h 11 (.pointer (some ⟨b, o, none⟩)) = mkLoad o (some (false, 1)) h[b]? := aload_eq Tryd.tyc11
theorem Tryd.loadF11 {h : AH} {c : Array Value} {n : Nat} : aload Tryd.prog h 11 (fp c n) = mkLoadF c n (some (false, 1)) := aload_fp Tryd.tyc11
theorem Tryd.store11 {h : AH} {b o : Nat} {v : Value} : astore Tryd.prog h 11 (.pointer (some ⟨b, o, none⟩)) v = mkStore h b o v (some (false, 1)) h[b]? := astore_eq' Tryd.tyc11
theorem Tryd.some11 : (tyc Tryd.prog 11).isSome = true := by rw [Tryd.tyc11]; rfl
theorem Tryd.tyc12 : tyc Tryd.prog 12 = some (false, 1) := by kernel_rfl
theorem Tryd.load12 {h : AH} {b o : Nat} : aload Tryd.prog h 12 (.pointer (some ⟨b, o, none⟩)) = mkLoad o (some (false, 1)) h[b]? := aload_eq Tryd.tyc12
theorem Tryd.loadF12 {h : AH} {c : Array Value} {n : Nat} : aload Tryd.prog h 12 (fp c n) = mkLoadF c n (some (false, 1)) := aload_fp Tryd.tyc12
theorem Tryd.store12 {h : AH} {b o : Nat} {v : Value} : astore Tryd.prog h 12 (.pointer (some ⟨b, o, none⟩)) v = mkStore h b o v (some (false, 1)) h[b]? := astore_eq' Tryd.tyc12
theorem Tryd.some12 : (tyc Tryd.prog 12).isSome = true := by rw [Tryd.tyc12]; rfl
theorem Tryd.tyc13 : tyc Tryd.prog 13 = some (true, 2) := by kernel_rfl
theorem Tryd.load13 {h : AH} {b o : Nat} : aload Tryd.prog h 13 (.pointer (some ⟨b, o, none⟩)) = mkLoad o (some (true, 2)) h[b]? := aload_eq Tryd.tyc13
theorem Tryd.loadF13 {h : AH} {c : Array Value} {n : Nat} : aload Tryd.prog h 13 (fp c n) = mkLoadF c n (some (true, 2)) := aload_fp Tryd.tyc13
theorem Tryd.store13 {h : AH} {b o : Nat} {v : Value} : astore Tryd.prog h 13 (.pointer (some ⟨b, o, none⟩)) v = mkStore h b o v (some (true, 2)) h[b]? := astore_eq' Tryd.tyc13
theorem Tryd.some13 : (tyc Tryd.prog 13).isSome = true := by rw [Tryd.tyc13]; rfl
theorem Tryd.tyc14 : tyc Tryd.prog 14 = some (true, 2) := by kernel_rfl
theorem Tryd.load14 {h : AH} {b o : Nat} : aload Tryd.prog h 14 (.pointer (some ⟨b, o, none⟩)) = mkLoad o (some (true, 2)) h[b]? := aload_eq Tryd.tyc14
theorem Tryd.loadF14 {h : AH} {c : Array Value} {n : Nat} : aload Tryd.prog h 14 (fp c n) = mkLoadF c n (some (true, 2)) := aload_fp Tryd.tyc14
theorem Tryd.store14 {h : AH} {b o : Nat} {v : Value} : astore Tryd.prog h 14 (.pointer (some ⟨b, o, none⟩)) v = mkStore h b o v (some (true, 2)) h[b]? := astore_eq' Tryd.tyc14
theorem Tryd.some14 : (tyc Tryd.prog 14).isSome = true := by rw [Tryd.tyc14]; rfl
theorem Tryd.tyc15 : tyc Tryd.prog 15 = some (false, 1) := by kernel_rfl
theorem Tryd.load15 {h : AH} {b o : Nat} : aload Tryd.prog h 15 (.pointer (some ⟨b, o, none⟩)) = mkLoad o (some (false, 1)) h[b]? := aload_eq Tryd.tyc15
theorem Tryd.loadF15 {h : AH} {c : Array Value} {n : Nat} : aload Tryd.prog h 15 (fp c n) = mkLoadF c n (some (false, 1)) := aload_fp Tryd.tyc15
theorem Tryd.store15 {h : AH} {b o : Nat} {v : Value} : astore Tryd.prog h 15 (.pointer (some ⟨b, o, none⟩)) v = mkStore h b o v (some (false, 1)) h[b]? := astore_eq' Tryd.tyc15
theorem Tryd.some15 : (tyc Tryd.prog 15).isSome = true := by rw [Tryd.tyc15]; rfl
theorem Tryd.tyc16 : tyc Tryd.prog 16 = some (false, 1) := by kernel_rfl
theorem Tryd.load16 {h : AH} {b o : Nat} : aload Tryd.prog h 16 (.pointer (some ⟨b, o, none⟩)) = mkLoad o (some (false, 1)) h[b]? := aload_eq Tryd.tyc16
theorem Tryd.loadF16 {h : AH} {c : Array Value} {n : Nat} : aload Tryd.prog h 16 (fp c n) = mkLoadF c n (some (false, 1)) := aload_fp Tryd.tyc16
theorem Tryd.store16 {h : AH} {b o : Nat} {v : Value} : astore Tryd.prog h 16 (.pointer (some ⟨b, o, none⟩)) v = mkStore h b o v (some (false, 1)) h[b]? := astore_eq' Tryd.tyc16
theorem Tryd.some16 : (tyc Tryd.prog 16).isSome = true := by rw [Tryd.tyc16]; rfl
theorem Tryd.tyc17 : tyc Tryd.prog 17 = some (false, 1) := by kernel_rfl
theorem Tryd.load17 {h : AH} {b o : Nat} : aload Tryd.prog h 17 (.pointer (some ⟨b, o, none⟩)) = mkLoad o (some (false, 1)) h[b]? := aload_eq Tryd.tyc17
theorem Tryd.loadF17 {h : AH} {c : Array Value} {n : Nat} : aload Tryd.prog h 17 (fp c n) = mkLoadF c n (some (false, 1)) := aload_fp Tryd.tyc17
theorem Tryd.store17 {h : AH} {b o : Nat} {v : Value} : astore Tryd.prog h 17 (.pointer (some ⟨b, o, none⟩)) v = mkStore h b o v (some (false, 1)) h[b]? := astore_eq' Tryd.tyc17
theorem Tryd.some17 : (tyc Tryd.prog 17).isSome = true := by rw [Tryd.tyc17]; rfl
theorem Tryd.tyc18 : tyc Tryd.prog 18 = some (true, 1) := by kernel_rfl
theorem Tryd.load18 {h : AH} {b o : Nat} : aload Tryd.prog h 18 (.pointer (some ⟨b, o, none⟩)) = mkLoad o (some (true, 1)) h[b]? := aload_eq Tryd.tyc18
theorem Tryd.loadF18 {h : AH} {c : Array Value} {n : Nat} : aload Tryd.prog h 18 (fp c n) = mkLoadF c n (some (true, 1)) := aload_fp Tryd.tyc18
theorem Tryd.store18 {h : AH} {b o : Nat} {v : Value} : astore Tryd.prog h 18 (.pointer (some ⟨b, o, none⟩)) v = mkStore h b o v (some (true, 1)) h[b]? := astore_eq' Tryd.tyc18
theorem Tryd.some18 : (tyc Tryd.prog 18).isSome = true := by rw [Tryd.tyc18]; rfl
theorem Tryd.tyc19 : tyc Tryd.prog 19 = some (true, 1) := by kernel_rfl
theorem Tryd.load19 {h : AH} {b o : Nat} : aload Tryd.prog h 19 (.pointer (some ⟨b, o, none⟩)) = mkLoad o (some (true, 1)) h[b]? := aload_eq Tryd.tyc19
theorem Tryd.loadF19 {h : AH} {c : Array Value} {n : Nat} : aload Tryd.prog h 19 (fp c n) = mkLoadF c n (some (true, 1)) := aload_fp Tryd.tyc19
theorem Tryd.store19 {h : AH} {b o : Nat} {v : Value} : astore Tryd.prog h 19 (.pointer (some ⟨b, o, none⟩)) v = mkStore h b o v (some (true, 1)) h[b]? := astore_eq' Tryd.tyc19
theorem Tryd.some19 : (tyc Tryd.prog 19).isSome = true := by rw [Tryd.tyc19]; rfl
theorem Tryd.tyc20 : tyc Tryd.prog 20 = some (false, 1) := by kernel_rfl
theorem Tryd.load20 {h : AH} {b o : Nat} : aload Tryd.prog h 20 (.pointer (some ⟨b, o, none⟩)) = mkLoad o (some (false, 1)) h[b]? := aload_eq Tryd.tyc20
theorem Tryd.loadF20 {h : AH} {c : Array Value} {n : Nat} : aload Tryd.prog h 20 (fp c n) = mkLoadF c n (some (false, 1)) := aload_fp Tryd.tyc20
theorem Tryd.store20 {h : AH} {b o : Nat} {v : Value} : astore Tryd.prog h 20 (.pointer (some ⟨b, o, none⟩)) v = mkStore h b o v (some (false, 1)) h[b]? := astore_eq' Tryd.tyc20
theorem Tryd.some20 : (tyc Tryd.prog 20).isSome = true := by rw [Tryd.tyc20]; rfl
theorem Tryd.tyc21 : tyc Tryd.prog 21 = some (false, 1) := by kernel_rfl
theorem Tryd.load21 {h : AH} {b o : Nat} : aload Tryd.prog h 21 (.pointer (some ⟨b, o, none⟩)) = mkLoad o (some (false, 1)) h[b]? := aload_eq Tryd.tyc21
theorem Tryd.loadF21 {h : AH} {c : Array Value} {n : Nat} : aload Tryd.prog h 21 (fp c n) = mkLoadF c n (some (false, 1)) := aload_fp Tryd.tyc21
theorem Tryd.store21 {h : AH} {b o : Nat} {v : Value} : astore Tryd.prog h 21 (.pointer (some ⟨b, o, none⟩)) v = mkStore h b o v (some (false, 1)) h[b]? := astore_eq' Tryd.tyc21
theorem Tryd.some21 : (tyc Tryd.prog 21).isSome = true := by rw [Tryd.tyc21]; rfl
theorem Tryd.tyc22 : tyc Tryd.prog 22 = some (false, 1) := by kernel_rfl
theorem Tryd.load22 {h : AH} {b o : Nat} : aload Tryd.prog h 22 (.pointer (some ⟨b, o, none⟩)) = mkLoad o (some (false, 1)) h[b]? := aload_eq Tryd.tyc22
theorem Tryd.loadF22 {h : AH} {c : Array Value} {n : Nat} : aload Tryd.prog h 22 (fp c n) = mkLoadF c n (some (false, 1)) := aload_fp Tryd.tyc22
theorem Tryd.store22 {h : AH} {b o : Nat} {v : Value} : astore Tryd.prog h 22 (.pointer (some ⟨b, o, none⟩)) v = mkStore h b o v (some (false, 1)) h[b]? := astore_eq' Tryd.tyc22
theorem Tryd.some22 : (tyc Tryd.prog 22).isSome = true := by rw [Tryd.tyc22]; rfl
theorem Tryd.tyc23 : tyc Tryd.prog 23 = some (false, 1) := by kernel_rfl
theorem Tryd.load23 {h : AH} {b o : Nat} : aload Tryd.prog h 23 (.pointer (some ⟨b, o, none⟩)) = mkLoad o (some (false, 1)) h[b]? := aload_eq Tryd.tyc23
theorem Tryd.loadF23 {h : AH} {c : Array Value} {n : Nat} : aload Tryd.prog h 23 (fp c n) = mkLoadF c n (some (false, 1)) := aload_fp Tryd.tyc23
theorem Tryd.store23 {h : AH} {b o : Nat} {v : Value} : astore Tryd.prog h 23 (.pointer (some ⟨b, o, none⟩)) v = mkStore h b o v (some (false, 1)) h[b]? := astore_eq' Tryd.tyc23
theorem Tryd.some23 : (tyc Tryd.prog 23).isSome = true := by rw [Tryd.tyc23]; rfl
theorem Tryd.tyc24 : tyc Tryd.prog 24 = some (true, 4) := by kernel_rfl
theorem Tryd.load24 {h : AH} {b o : Nat} : aload Tryd.prog h 24 (.pointer (some ⟨b, o, none⟩)) = mkLoad o (some (true, 4)) h[b]? := aload_eq Tryd.tyc24
theorem Tryd.loadF24 {h : AH} {c : Array Value} {n : Nat} : aload Tryd.prog h 24 (fp c n) = mkLoadF c n (some (true, 4)) := aload_fp Tryd.tyc24
theorem Tryd.store24 {h : AH} {b o : Nat} {v : Value} : astore Tryd.prog h 24 (.pointer (some ⟨b, o, none⟩)) v = mkStore h b o v (some (true, 4)) h[b]? := astore_eq' Tryd.tyc24
theorem Tryd.some24 : (tyc Tryd.prog 24).isSome = true := by rw [Tryd.tyc24]; rfl
theorem Tryd.tyc25 : tyc Tryd.prog 25 = some (true, 4) := by kernel_rfl
theorem Tryd.load25 {h : AH} {b o : Nat} : aload Tryd.prog h 25 (.pointer (some ⟨b, o, none⟩)) = mkLoad o (some (true, 4)) h[b]? := aload_eq Tryd.tyc25
theorem Tryd.loadF25 {h : AH} {c : Array Value} {n : Nat} : aload Tryd.prog h 25 (fp c n) = mkLoadF c n (some (true, 4)) := aload_fp Tryd.tyc25
theorem Tryd.store25 {h : AH} {b o : Nat} {v : Value} : astore Tryd.prog h 25 (.pointer (some ⟨b, o, none⟩)) v = mkStore h b o v (some (true, 4)) h[b]? := astore_eq' Tryd.tyc25
theorem Tryd.some25 : (tyc Tryd.prog 25).isSome = true := by rw [Tryd.tyc25]; rfl
theorem Tryd.tyc26 : tyc Tryd.prog 26 = some (false, 1) := by kernel_rfl
theorem Tryd.load26 {h : AH} {b o : Nat} : aload Tryd.prog h 26 (.pointer (some ⟨b, o, none⟩)) = mkLoad o (some (false, 1)) h[b]? := aload_eq Tryd.tyc26
theorem Tryd.loadF26 {h : AH} {c : Array Value} {n : Nat} : aload Tryd.prog h 26 (fp c n) = mkLoadF c n (some (false, 1)) := aload_fp Tryd.tyc26
theorem Tryd.store26 {h : AH} {b o : Nat} {v : Value} : astore Tryd.prog h 26 (.pointer (some ⟨b, o, none⟩)) v = mkStore h b o v (some (false, 1)) h[b]? := astore_eq' Tryd.tyc26
theorem Tryd.some26 : (tyc Tryd.prog 26).isSome = true := by rw [Tryd.tyc26]; rfl
theorem Tryd.tyc27 : tyc Tryd.prog 27 = some (false, 1) := by kernel_rfl
theorem Tryd.load27 {h : AH} {b o : Nat} : aload Tryd.prog h 27 (.pointer (some ⟨b, o, none⟩)) = mkLoad o (some (false, 1)) h[b]? := aload_eq Tryd.tyc27
theorem Tryd.loadF27 {h : AH} {c : Array Value} {n : Nat} : aload Tryd.prog h 27 (fp c n) = mkLoadF c n (some (false, 1)) := aload_fp Tryd.tyc27
theorem Tryd.store27 {h : AH} {b o : Nat} {v : Value} : astore Tryd.prog h 27 (.pointer (some ⟨b, o, none⟩)) v = mkStore h b o v (some (false, 1)) h[b]? := astore_eq' Tryd.tyc27
theorem Tryd.some27 : (tyc Tryd.prog 27).isSome = true := by rw [Tryd.tyc27]; rfl
theorem Tryd.tyc28 : tyc Tryd.prog 28 = some (false, 1) := by kernel_rfl
theorem Tryd.load28 {h : AH} {b o : Nat} : aload Tryd.prog h 28 (.pointer (some ⟨b, o, none⟩)) = mkLoad o (some (false, 1)) h[b]? := aload_eq Tryd.tyc28
theorem Tryd.loadF28 {h : AH} {c : Array Value} {n : Nat} : aload Tryd.prog h 28 (fp c n) = mkLoadF c n (some (false, 1)) := aload_fp Tryd.tyc28
theorem Tryd.store28 {h : AH} {b o : Nat} {v : Value} : astore Tryd.prog h 28 (.pointer (some ⟨b, o, none⟩)) v = mkStore h b o v (some (false, 1)) h[b]? := astore_eq' Tryd.tyc28
theorem Tryd.some28 : (tyc Tryd.prog 28).isSome = true := by rw [Tryd.tyc28]; rfl
theorem Tryd.tyc29 : tyc Tryd.prog 29 = some (false, 1) := by kernel_rfl
theorem Tryd.load29 {h : AH} {b o : Nat} : aload Tryd.prog h 29 (.pointer (some ⟨b, o, none⟩)) = mkLoad o (some (false, 1)) h[b]? := aload_eq Tryd.tyc29
theorem Tryd.loadF29 {h : AH} {c : Array Value} {n : Nat} : aload Tryd.prog h 29 (fp c n) = mkLoadF c n (some (false, 1)) := aload_fp Tryd.tyc29
theorem Tryd.store29 {h : AH} {b o : Nat} {v : Value} : astore Tryd.prog h 29 (.pointer (some ⟨b, o, none⟩)) v = mkStore h b o v (some (false, 1)) h[b]? := astore_eq' Tryd.tyc29
theorem Tryd.some29 : (tyc Tryd.prog 29).isSome = true := by rw [Tryd.tyc29]; rfl
theorem Tryd.tyc30 : tyc Tryd.prog 30 = some (false, 1) := by kernel_rfl
theorem Tryd.load30 {h : AH} {b o : Nat} : aload Tryd.prog h 30 (.pointer (some ⟨b, o, none⟩)) = mkLoad o (some (false, 1)) h[b]? := aload_eq Tryd.tyc30
theorem Tryd.loadF30 {h : AH} {c : Array Value} {n : Nat} : aload Tryd.prog h 30 (fp c n) = mkLoadF c n (some (false, 1)) := aload_fp Tryd.tyc30
theorem Tryd.store30 {h : AH} {b o : Nat} {v : Value} : astore Tryd.prog h 30 (.pointer (some ⟨b, o, none⟩)) v = mkStore h b o v (some (false, 1)) h[b]? := astore_eq' Tryd.tyc30
theorem Tryd.some30 : (tyc Tryd.prog 30).isSome = true := by rw [Tryd.tyc30]; rfl
theorem Tryd.tyc31 : tyc Tryd.prog 31 = some (false, 1) := by kernel_rfl
theorem Tryd.load31 {h : AH} {b o : Nat} : aload Tryd.prog h 31 (.pointer (some ⟨b, o, none⟩)) = mkLoad o (some (false, 1)) h[b]? := aload_eq Tryd.tyc31
theorem Tryd.loadF31 {h : AH} {c : Array Value} {n : Nat} : aload Tryd.prog h 31 (fp c n) = mkLoadF c n (some (false, 1)) := aload_fp Tryd.tyc31
theorem Tryd.store31 {h : AH} {b o : Nat} {v : Value} : astore Tryd.prog h 31 (.pointer (some ⟨b, o, none⟩)) v = mkStore h b o v (some (false, 1)) h[b]? := astore_eq' Tryd.tyc31
theorem Tryd.some31 : (tyc Tryd.prog 31).isSome = true := by rw [Tryd.tyc31]; rfl
theorem Tryd.tyc32 : tyc Tryd.prog 32 = some (false, 1) := by kernel_rfl
theorem Tryd.load32 {h : AH} {b o : Nat} : aload Tryd.prog h 32 (.pointer (some ⟨b, o, none⟩)) = mkLoad o (some (false, 1)) h[b]? := aload_eq Tryd.tyc32
theorem Tryd.loadF32 {h : AH} {c : Array Value} {n : Nat} : aload Tryd.prog h 32 (fp c n) = mkLoadF c n (some (false, 1)) := aload_fp Tryd.tyc32
theorem Tryd.store32 {h : AH} {b o : Nat} {v : Value} : astore Tryd.prog h 32 (.pointer (some ⟨b, o, none⟩)) v = mkStore h b o v (some (false, 1)) h[b]? := astore_eq' Tryd.tyc32
theorem Tryd.some32 : (tyc Tryd.prog 32).isSome = true := by rw [Tryd.tyc32]; rfl
theorem Tryd.tyc33 : tyc Tryd.prog 33 = some (false, 1) := by kernel_rfl
theorem Tryd.load33 {h : AH} {b o : Nat} : aload Tryd.prog h 33 (.pointer (some ⟨b, o, none⟩)) = mkLoad o (some (false, 1)) h[b]? := aload_eq Tryd.tyc33
theorem Tryd.loadF33 {h : AH} {c : Array Value} {n : Nat} : aload Tryd.prog h 33 (fp c n) = mkLoadF c n (some (false, 1)) := aload_fp Tryd.tyc33
theorem Tryd.store33 {h : AH} {b o : Nat} {v : Value} : astore Tryd.prog h 33 (.pointer (some ⟨b, o, none⟩)) v = mkStore h b o v (some (false, 1)) h[b]? := astore_eq' Tryd.tyc33
theorem Tryd.some33 : (tyc Tryd.prog 33).isSome = true := by rw [Tryd.tyc33]; rfl
theorem Tryd.tyc34 : tyc Tryd.prog 34 = some (false, 1) := by kernel_rfl
theorem Tryd.load34 {h : AH} {b o : Nat} : aload Tryd.prog h 34 (.pointer (some ⟨b, o, none⟩)) = mkLoad o (some (false, 1)) h[b]? := aload_eq Tryd.tyc34
theorem Tryd.loadF34 {h : AH} {c : Array Value} {n : Nat} : aload Tryd.prog h 34 (fp c n) = mkLoadF c n (some (false, 1)) := aload_fp Tryd.tyc34
theorem Tryd.store34 {h : AH} {b o : Nat} {v : Value} : astore Tryd.prog h 34 (.pointer (some ⟨b, o, none⟩)) v = mkStore h b o v (some (false, 1)) h[b]? := astore_eq' Tryd.tyc34
theorem Tryd.some34 : (tyc Tryd.prog 34).isSome = true := by rw [Tryd.tyc34]; rfl
theorem Tryd.tyc35 : tyc Tryd.prog 35 = some (false, 1) := by kernel_rfl
theorem Tryd.load35 {h : AH} {b o : Nat} : aload Tryd.prog h 35 (.pointer (some ⟨b, o, none⟩)) = mkLoad o (some (false, 1)) h[b]? := aload_eq Tryd.tyc35
theorem Tryd.loadF35 {h : AH} {c : Array Value} {n : Nat} : aload Tryd.prog h 35 (fp c n) = mkLoadF c n (some (false, 1)) := aload_fp Tryd.tyc35
theorem Tryd.store35 {h : AH} {b o : Nat} {v : Value} : astore Tryd.prog h 35 (.pointer (some ⟨b, o, none⟩)) v = mkStore h b o v (some (false, 1)) h[b]? := astore_eq' Tryd.tyc35
theorem Tryd.some35 : (tyc Tryd.prog 35).isSome = true := by rw [Tryd.tyc35]; rfl
theorem Tryd.tyc36 : tyc Tryd.prog 36 = some (false, 1) := by kernel_rfl
theorem Tryd.load36 {h : AH} {b o : Nat} : aload Tryd.prog h 36 (.pointer (some ⟨b, o, none⟩)) = mkLoad o (some (false, 1)) h[b]? := aload_eq Tryd.tyc36
theorem Tryd.loadF36 {h : AH} {c : Array Value} {n : Nat} : aload Tryd.prog h 36 (fp c n) = mkLoadF c n (some (false, 1)) := aload_fp Tryd.tyc36
theorem Tryd.store36 {h : AH} {b o : Nat} {v : Value} : astore Tryd.prog h 36 (.pointer (some ⟨b, o, none⟩)) v = mkStore h b o v (some (false, 1)) h[b]? := astore_eq' Tryd.tyc36
theorem Tryd.some36 : (tyc Tryd.prog 36).isSome = true := by rw [Tryd.tyc36]; rfl
theorem Tryd.tyc37 : tyc Tryd.prog 37 = some (false, 1) := by kernel_rfl
theorem Tryd.load37 {h : AH} {b o : Nat} : aload Tryd.prog h 37 (.pointer (some ⟨b, o, none⟩)) = mkLoad o (some (false, 1)) h[b]? := aload_eq Tryd.tyc37
theorem Tryd.loadF37 {h : AH} {c : Array Value} {n : Nat} : aload Tryd.prog h 37 (fp c n) = mkLoadF c n (some (false, 1)) := aload_fp Tryd.tyc37
theorem Tryd.store37 {h : AH} {b o : Nat} {v : Value} : astore Tryd.prog h 37 (.pointer (some ⟨b, o, none⟩)) v = mkStore h b o v (some (false, 1)) h[b]? := astore_eq' Tryd.tyc37
theorem Tryd.some37 : (tyc Tryd.prog 37).isSome = true := by rw [Tryd.tyc37]; rfl
theorem Tryd.tyc38 : tyc Tryd.prog 38 = some (false, 1) := by kernel_rfl
theorem Tryd.load38 {h : AH} {b o : Nat} : aload Tryd.prog h 38 (.pointer (some ⟨b, o, none⟩)) = mkLoad o (some (false, 1)) h[b]? := aload_eq Tryd.tyc38
theorem Tryd.loadF38 {h : AH} {c : Array Value} {n : Nat} : aload Tryd.prog h 38 (fp c n) = mkLoadF c n (some (false, 1)) := aload_fp Tryd.tyc38
theorem Tryd.store38 {h : AH} {b o : Nat} {v : Value} : astore Tryd.prog h 38 (.pointer (some ⟨b, o, none⟩)) v = mkStore h b o v (some (false, 1)) h[b]? := astore_eq' Tryd.tyc38
theorem Tryd.some38 : (tyc Tryd.prog 38).isSome = true := by rw [Tryd.tyc38]; rfl
theorem Tryd.tyc39 : tyc Tryd.prog 39 = some (false, 1) := by kernel_rfl
theorem Tryd.load39 {h : AH} {b o : Nat} : aload Tryd.prog h 39 (.pointer (some ⟨b, o, none⟩)) = mkLoad o (some (false, 1)) h[b]? := aload_eq Tryd.tyc39
theorem Tryd.loadF39 {h : AH} {c : Array Value} {n : Nat} : aload Tryd.prog h 39 (fp c n) = mkLoadF c n (some (false, 1)) := aload_fp Tryd.tyc39
theorem Tryd.store39 {h : AH} {b o : Nat} {v : Value} : astore Tryd.prog h 39 (.pointer (some ⟨b, o, none⟩)) v = mkStore h b o v (some (false, 1)) h[b]? := astore_eq' Tryd.tyc39
theorem Tryd.some39 : (tyc Tryd.prog 39).isSome = true := by rw [Tryd.tyc39]; rfl
theorem Tryd.tyc40 : tyc Tryd.prog 40 = some (true, 20) := by kernel_rfl
theorem Tryd.load40 {h : AH} {b o : Nat} : aload Tryd.prog h 40 (.pointer (some ⟨b, o, none⟩)) = mkLoad o (some (true, 20)) h[b]? := aload_eq Tryd.tyc40
theorem Tryd.loadF40 {h : AH} {c : Array Value} {n : Nat} : aload Tryd.prog h 40 (fp c n) = mkLoadF c n (some (true, 20)) := aload_fp Tryd.tyc40
theorem Tryd.store40 {h : AH} {b o : Nat} {v : Value} : astore Tryd.prog h 40 (.pointer (some ⟨b, o, none⟩)) v = mkStore h b o v (some (true, 20)) h[b]? := astore_eq' Tryd.tyc40
theorem Tryd.some40 : (tyc Tryd.prog 40).isSome = true := by rw [Tryd.tyc40]; rfl
theorem Tryd.tyc41 : tyc Tryd.prog 41 = some (true, 20) := by kernel_rfl
theorem Tryd.load41 {h : AH} {b o : Nat} : aload Tryd.prog h 41 (.pointer (some ⟨b, o, none⟩)) = mkLoad o (some (true, 20)) h[b]? := aload_eq Tryd.tyc41
theorem Tryd.loadF41 {h : AH} {c : Array Value} {n : Nat} : aload Tryd.prog h 41 (fp c n) = mkLoadF c n (some (true, 20)) := aload_fp Tryd.tyc41
theorem Tryd.store41 {h : AH} {b o : Nat} {v : Value} : astore Tryd.prog h 41 (.pointer (some ⟨b, o, none⟩)) v = mkStore h b o v (some (true, 20)) h[b]? := astore_eq' Tryd.tyc41
theorem Tryd.some41 : (tyc Tryd.prog 41).isSome = true := by rw [Tryd.tyc41]; rfl
theorem Tryd.tyc42 : tyc Tryd.prog 42 = some (false, 1) := by kernel_rfl
theorem Tryd.load42 {h : AH} {b o : Nat} : aload Tryd.prog h 42 (.pointer (some ⟨b, o, none⟩)) = mkLoad o (some (false, 1)) h[b]? := aload_eq Tryd.tyc42
theorem Tryd.loadF42 {h : AH} {c : Array Value} {n : Nat} : aload Tryd.prog h 42 (fp c n) = mkLoadF c n (some (false, 1)) := aload_fp Tryd.tyc42
theorem Tryd.store42 {h : AH} {b o : Nat} {v : Value} : astore Tryd.prog h 42 (.pointer (some ⟨b, o, none⟩)) v = mkStore h b o v (some (false, 1)) h[b]? := astore_eq' Tryd.tyc42
theorem Tryd.some42 : (tyc Tryd.prog 42).isSome = true := by rw [Tryd.tyc42]; rfl
theorem Tryd.tyc43 : tyc Tryd.prog 43 = some (false, 1) := by kernel_rfl
theorem Tryd.load43 {h : AH} {b o : Nat} : aload Tryd.prog h 43 (.pointer (some ⟨b, o, none⟩)) = mkLoad o (some (false, 1)) h[b]? := aload_eq Tryd.tyc43
theorem Tryd.loadF43 {h : AH} {c : Array Value} {n : Nat} : aload Tryd.prog h 43 (fp c n) = mkLoadF c n (some (false, 1)) := aload_fp Tryd.tyc43
theorem Tryd.store43 {h : AH} {b o : Nat} {v : Value} : astore Tryd.prog h 43 (.pointer (some ⟨b, o, none⟩)) v = mkStore h b o v (some (false, 1)) h[b]? := astore_eq' Tryd.tyc43
theorem Tryd.some43 : (tyc Tryd.prog 43).isSome = true := by rw [Tryd.tyc43]; rfl
theorem Tryd.tyc44 : tyc Tryd.prog 44 = some (false, 1) := by kernel_rfl
theorem Tryd.load44 {h : AH} {b o : Nat} : aload Tryd.prog h 44 (.pointer (some ⟨b, o, none⟩)) = mkLoad o (some (false, 1)) h[b]? := aload_eq Tryd.tyc44
theorem Tryd.loadF44 {h : AH} {c : Array Value} {n : Nat} : aload Tryd.prog h 44 (fp c n) = mkLoadF c n (some (false, 1)) := aload_fp Tryd.tyc44
theorem Tryd.store44 {h : AH} {b o : Nat} {v : Value} : astore Tryd.prog h 44 (.pointer (some ⟨b, o, none⟩)) v = mkStore h b o v (some (false, 1)) h[b]? := astore_eq' Tryd.tyc44
theorem Tryd.some44 : (tyc Tryd.prog 44).isSome = true := by rw [Tryd.tyc44]; rfl
theorem Tryd.tyc45 : tyc Tryd.prog 45 = some (false, 1) := by kernel_rfl
theorem Tryd.load45 {h : AH} {b o : Nat} : aload Tryd.prog h 45 (.pointer (some ⟨b, o, none⟩)) = mkLoad o (some (false, 1)) h[b]? := aload_eq Tryd.tyc45
theorem Tryd.loadF45 {h : AH} {c : Array Value} {n : Nat} : aload Tryd.prog h 45 (fp c n) = mkLoadF c n (some (false, 1)) := aload_fp Tryd.tyc45
theorem Tryd.store45 {h : AH} {b o : Nat} {v : Value} : astore Tryd.prog h 45 (.pointer (some ⟨b, o, none⟩)) v = mkStore h b o v (some (false, 1)) h[b]? := astore_eq' Tryd.tyc45
theorem Tryd.some45 : (tyc Tryd.prog 45).isSome = true := by rw [Tryd.tyc45]; rfl
theorem Tryd.tyc46 : tyc Tryd.prog 46 = some (false, 1) := by kernel_rfl
theorem Tryd.load46 {h : AH} {b o : Nat} : aload Tryd.prog h 46 (.pointer (some ⟨b, o, none⟩)) = mkLoad o (some (false, 1)) h[b]? := aload_eq Tryd.tyc46
theorem Tryd.loadF46 {h : AH} {c : Array Value} {n : Nat} : aload Tryd.prog h 46 (fp c n) = mkLoadF c n (some (false, 1)) := aload_fp Tryd.tyc46
theorem Tryd.store46 {h : AH} {b o : Nat} {v : Value} : astore Tryd.prog h 46 (.pointer (some ⟨b, o, none⟩)) v = mkStore h b o v (some (false, 1)) h[b]? := astore_eq' Tryd.tyc46
theorem Tryd.some46 : (tyc Tryd.prog 46).isSome = true := by rw [Tryd.tyc46]; rfl
theorem Tryd.tyc47 : tyc Tryd.prog 47 = some (false, 1) := by kernel_rfl
theorem Tryd.load47 {h : AH} {b o : Nat} : aload Tryd.prog h 47 (.pointer (some ⟨b, o, none⟩)) = mkLoad o (some (false, 1)) h[b]? := aload_eq Tryd.tyc47
theorem Tryd.loadF47 {h : AH} {c : Array Value} {n : Nat} : aload Tryd.prog h 47 (fp c n) = mkLoadF c n (some (false, 1)) := aload_fp Tryd.tyc47
theorem Tryd.store47 {h : AH} {b o : Nat} {v : Value} : astore Tryd.prog h 47 (.pointer (some ⟨b, o, none⟩)) v = mkStore h b o v (some (false, 1)) h[b]? := astore_eq' Tryd.tyc47
theorem Tryd.some47 : (tyc Tryd.prog 47).isSome = true := by rw [Tryd.tyc47]; rfl
theorem Tryd.tyc48 : tyc Tryd.prog 48 = some (false, 1) := by kernel_rfl
theorem Tryd.load48 {h : AH} {b o : Nat} : aload Tryd.prog h 48 (.pointer (some ⟨b, o, none⟩)) = mkLoad o (some (false, 1)) h[b]? := aload_eq Tryd.tyc48
theorem Tryd.loadF48 {h : AH} {c : Array Value} {n : Nat} : aload Tryd.prog h 48 (fp c n) = mkLoadF c n (some (false, 1)) := aload_fp Tryd.tyc48
theorem Tryd.store48 {h : AH} {b o : Nat} {v : Value} : astore Tryd.prog h 48 (.pointer (some ⟨b, o, none⟩)) v = mkStore h b o v (some (false, 1)) h[b]? := astore_eq' Tryd.tyc48
theorem Tryd.some48 : (tyc Tryd.prog 48).isSome = true := by rw [Tryd.tyc48]; rfl
theorem Tryd.tyc49 : tyc Tryd.prog 49 = some (false, 1) := by kernel_rfl
theorem Tryd.load49 {h : AH} {b o : Nat} : aload Tryd.prog h 49 (.pointer (some ⟨b, o, none⟩)) = mkLoad o (some (false, 1)) h[b]? := aload_eq Tryd.tyc49
theorem Tryd.loadF49 {h : AH} {c : Array Value} {n : Nat} : aload Tryd.prog h 49 (fp c n) = mkLoadF c n (some (false, 1)) := aload_fp Tryd.tyc49
theorem Tryd.store49 {h : AH} {b o : Nat} {v : Value} : astore Tryd.prog h 49 (.pointer (some ⟨b, o, none⟩)) v = mkStore h b o v (some (false, 1)) h[b]? := astore_eq' Tryd.tyc49
theorem Tryd.some49 : (tyc Tryd.prog 49).isSome = true := by rw [Tryd.tyc49]; rfl
theorem Tryd.tyc50 : tyc Tryd.prog 50 = some (true, 2) := by kernel_rfl
theorem Tryd.load50 {h : AH} {b o : Nat} : aload Tryd.prog h 50 (.pointer (some ⟨b, o, none⟩)) = mkLoad o (some (true, 2)) h[b]? := aload_eq Tryd.tyc50
theorem Tryd.loadF50 {h : AH} {c : Array Value} {n : Nat} : aload Tryd.prog h 50 (fp c n) = mkLoadF c n (some (true, 2)) := aload_fp Tryd.tyc50
theorem Tryd.store50 {h : AH} {b o : Nat} {v : Value} : astore Tryd.prog h 50 (.pointer (some ⟨b, o, none⟩)) v = mkStore h b o v (some (true, 2)) h[b]? := astore_eq' Tryd.tyc50
theorem Tryd.some50 : (tyc Tryd.prog 50).isSome = true := by rw [Tryd.tyc50]; rfl
theorem Tryd.tyc51 : tyc Tryd.prog 51 = some (true, 2) := by kernel_rfl
theorem Tryd.load51 {h : AH} {b o : Nat} : aload Tryd.prog h 51 (.pointer (some ⟨b, o, none⟩)) = mkLoad o (some (true, 2)) h[b]? := aload_eq Tryd.tyc51
theorem Tryd.loadF51 {h : AH} {c : Array Value} {n : Nat} : aload Tryd.prog h 51 (fp c n) = mkLoadF c n (some (true, 2)) := aload_fp Tryd.tyc51
theorem Tryd.store51 {h : AH} {b o : Nat} {v : Value} : astore Tryd.prog h 51 (.pointer (some ⟨b, o, none⟩)) v = mkStore h b o v (some (true, 2)) h[b]? := astore_eq' Tryd.tyc51
theorem Tryd.some51 : (tyc Tryd.prog 51).isSome = true := by rw [Tryd.tyc51]; rfl
theorem Tryd.tyc52 : tyc Tryd.prog 52 = some (false, 1) := by kernel_rfl
theorem Tryd.load52 {h : AH} {b o : Nat} : aload Tryd.prog h 52 (.pointer (some ⟨b, o, none⟩)) = mkLoad o (some (false, 1)) h[b]? := aload_eq Tryd.tyc52
theorem Tryd.loadF52 {h : AH} {c : Array Value} {n : Nat} : aload Tryd.prog h 52 (fp c n) = mkLoadF c n (some (false, 1)) := aload_fp Tryd.tyc52
theorem Tryd.store52 {h : AH} {b o : Nat} {v : Value} : astore Tryd.prog h 52 (.pointer (some ⟨b, o, none⟩)) v = mkStore h b o v (some (false, 1)) h[b]? := astore_eq' Tryd.tyc52
theorem Tryd.some52 : (tyc Tryd.prog 52).isSome = true := by rw [Tryd.tyc52]; rfl
theorem Tryd.tyc53 : tyc Tryd.prog 53 = some (false, 1) := by kernel_rfl
theorem Tryd.load53 {h : AH} {b o : Nat} : aload Tryd.prog h 53 (.pointer (some ⟨b, o, none⟩)) = mkLoad o (some (false, 1)) h[b]? := aload_eq Tryd.tyc53
theorem Tryd.loadF53 {h : AH} {c : Array Value} {n : Nat} : aload Tryd.prog h 53 (fp c n) = mkLoadF c n (some (false, 1)) := aload_fp Tryd.tyc53
theorem Tryd.store53 {h : AH} {b o : Nat} {v : Value} : astore Tryd.prog h 53 (.pointer (some ⟨b, o, none⟩)) v = mkStore h b o v (some (false, 1)) h[b]? := astore_eq' Tryd.tyc53
theorem Tryd.some53 : (tyc Tryd.prog 53).isSome = true := by rw [Tryd.tyc53]; rfl
theorem Tryd.tyc54 : tyc Tryd.prog 54 = some (false, 1) := by kernel_rfl
theorem Tryd.load54 {h : AH} {b o : Nat} : aload Tryd.prog h 54 (.pointer (some ⟨b, o, none⟩)) = mkLoad o (some (false, 1)) h[b]? := aload_eq Tryd.tyc54
theorem Tryd.loadF54 {h : AH} {c : Array Value} {n : Nat} : aload Tryd.prog h 54 (fp c n) = mkLoadF c n (some (false, 1)) := aload_fp Tryd.tyc54
theorem Tryd.store54 {h : AH} {b o : Nat} {v : Value} : astore Tryd.prog h 54 (.pointer (some ⟨b, o, none⟩)) v = mkStore h b o v (some (false, 1)) h[b]? := astore_eq' Tryd.tyc54
theorem Tryd.some54 : (tyc Tryd.prog 54).isSome = true := by rw [Tryd.tyc54]; rfl
theorem Tryd.tyc55 : tyc Tryd.prog 55 = some (false, 1) := by kernel_rfl
theorem Tryd.load55 {h : AH} {b o : Nat} : aload Tryd.prog h 55 (.pointer (some ⟨b, o, none⟩)) = mkLoad o (some (false, 1)) h[b]? := aload_eq Tryd.tyc55
theorem Tryd.loadF55 {h : AH} {c : Array Value} {n : Nat} : aload Tryd.prog h 55 (fp c n) = mkLoadF c n (some (false, 1)) := aload_fp Tryd.tyc55
theorem Tryd.store55 {h : AH} {b o : Nat} {v : Value} : astore Tryd.prog h 55 (.pointer (some ⟨b, o, none⟩)) v = mkStore h b o v (some (false, 1)) h[b]? := astore_eq' Tryd.tyc55
theorem Tryd.some55 : (tyc Tryd.prog 55).isSome = true := by rw [Tryd.tyc55]; rfl
theorem Tryd.tyc56 : tyc Tryd.prog 56 = some (false, 1) := by kernel_rfl
theorem Tryd.load56 {h : AH} {b o : Nat} : aload Tryd.prog h 56 (.pointer (some ⟨b, o, none⟩)) = mkLoad o (some (false, 1)) h[b]? := aload_eq Tryd.tyc56
theorem Tryd.loadF56 {h : AH} {c : Array Value} {n : Nat} : aload Tryd.prog h 56 (fp c n) = mkLoadF c n (some (false, 1)) := aload_fp Tryd.tyc56
theorem Tryd.store56 {h : AH} {b o : Nat} {v : Value} : astore Tryd.prog h 56 (.pointer (some ⟨b, o, none⟩)) v = mkStore h b o v (some (false, 1)) h[b]? := astore_eq' Tryd.tyc56
theorem Tryd.some56 : (tyc Tryd.prog 56).isSome = true := by rw [Tryd.tyc56]; rfl
theorem Tryd.tyc57 : tyc Tryd.prog 57 = some (false, 1) := by kernel_rfl
theorem Tryd.load57 {h : AH} {b o : Nat} : aload Tryd.prog h 57 (.pointer (some ⟨b, o, none⟩)) = mkLoad o (some (false, 1)) h[b]? := aload_eq Tryd.tyc57
theorem Tryd.loadF57 {h : AH} {c : Array Value} {n : Nat} : aload Tryd.prog h 57 (fp c n) = mkLoadF c n (some (false, 1)) := aload_fp Tryd.tyc57
theorem Tryd.store57 {h : AH} {b o : Nat} {v : Value} : astore Tryd.prog h 57 (.pointer (some ⟨b, o, none⟩)) v = mkStore h b o v (some (false, 1)) h[b]? := astore_eq' Tryd.tyc57
theorem Tryd.some57 : (tyc Tryd.prog 57).isSome = true := by rw [Tryd.tyc57]; rfl
theorem Tryd.tyc58 : tyc Tryd.prog 58 = some (false, 1) := by kernel_rfl
theorem Tryd.load58 {h : AH} {b o : Nat} : aload Tryd.prog h 58 (.pointer (some ⟨b, o, none⟩)) = mkLoad o (some (false, 1)) h[b]? := aload_eq Tryd.tyc58
theorem Tryd.loadF58 {h : AH} {c : Array Value} {n : Nat} : aload Tryd.prog h 58 (fp c n) = mkLoadF c n (some (false, 1)) := aload_fp Tryd.tyc58
theorem Tryd.store58 {h : AH} {b o : Nat} {v : Value} : astore Tryd.prog h 58 (.pointer (some ⟨b, o, none⟩)) v = mkStore h b o v (some (false, 1)) h[b]? := astore_eq' Tryd.tyc58
theorem Tryd.some58 : (tyc Tryd.prog 58).isSome = true := by rw [Tryd.tyc58]; rfl
theorem Tryd.tyc59 : tyc Tryd.prog 59 = some (false, 1) := by kernel_rfl
theorem Tryd.load59 {h : AH} {b o : Nat} : aload Tryd.prog h 59 (.pointer (some ⟨b, o, none⟩)) = mkLoad o (some (false, 1)) h[b]? := aload_eq Tryd.tyc59
theorem Tryd.loadF59 {h : AH} {c : Array Value} {n : Nat} : aload Tryd.prog h 59 (fp c n) = mkLoadF c n (some (false, 1)) := aload_fp Tryd.tyc59
theorem Tryd.store59 {h : AH} {b o : Nat} {v : Value} : astore Tryd.prog h 59 (.pointer (some ⟨b, o, none⟩)) v = mkStore h b o v (some (false, 1)) h[b]? := astore_eq' Tryd.tyc59
theorem Tryd.some59 : (tyc Tryd.prog 59).isSome = true := by rw [Tryd.tyc59]; rfl
theorem Tryd.tyc60 : tyc Tryd.prog 60 = some (false, 1) := by kernel_rfl
theorem Tryd.load60 {h : AH} {b o : Nat} : aload Tryd.prog h 60 (.pointer (some ⟨b, o, none⟩)) = mkLoad o (some (false, 1)) h[b]? := aload_eq Tryd.tyc60
theorem Tryd.loadF60 {h : AH} {c : Array Value} {n : Nat} : aload Tryd.prog h 60 (fp c n) = mkLoadF c n (some (false, 1)) := aload_fp Tryd.tyc60
theorem Tryd.store60 {h : AH} {b o : Nat} {v : Value} : astore Tryd.prog h 60 (.pointer (some ⟨b, o, none⟩)) v = mkStore h b o v (some (false, 1)) h[b]? := astore_eq' Tryd.tyc60
theorem Tryd.some60 : (tyc Tryd.prog 60).isSome = true := by rw [Tryd.tyc60]; rfl
theorem Tryd.tyc61 : tyc Tryd.prog 61 = some (false, 1) := by kernel_rfl
theorem Tryd.load61 {h : AH} {b o : Nat} : aload Tryd.prog h 61 (.pointer (some ⟨b, o, none⟩)) = mkLoad o (some (false, 1)) h[b]? := aload_eq Tryd.tyc61
theorem Tryd.loadF61 {h : AH} {c : Array Value} {n : Nat} : aload Tryd.prog h 61 (fp c n) = mkLoadF c n (some (false, 1)) := aload_fp Tryd.tyc61
theorem Tryd.store61 {h : AH} {b o : Nat} {v : Value} : astore Tryd.prog h 61 (.pointer (some ⟨b, o, none⟩)) v = mkStore h b o v (some (false, 1)) h[b]? := astore_eq' Tryd.tyc61
theorem Tryd.some61 : (tyc Tryd.prog 61).isSome = true := by rw [Tryd.tyc61]; rfl
theorem Tryd.tyc62 : tyc Tryd.prog 62 = some (false, 1) := by kernel_rfl
theorem Tryd.load62 {h : AH} {b o : Nat} : aload Tryd.prog h 62 (.pointer (some ⟨b, o, none⟩)) = mkLoad o (some (false, 1)) h[b]? := aload_eq Tryd.tyc62
theorem Tryd.loadF62 {h : AH} {c : Array Value} {n : Nat} : aload Tryd.prog h 62 (fp c n) = mkLoadF c n (some (false, 1)) := aload_fp Tryd.tyc62
theorem Tryd.store62 {h : AH} {b o : Nat} {v : Value} : astore Tryd.prog h 62 (.pointer (some ⟨b, o, none⟩)) v = mkStore h b o v (some (false, 1)) h[b]? := astore_eq' Tryd.tyc62
theorem Tryd.some62 : (tyc Tryd.prog 62).isSome = true := by rw [Tryd.tyc62]; rfl
theorem Tryd.tyc63 : tyc Tryd.prog 63 = some (false, 1) := by kernel_rfl
theorem Tryd.load63 {h : AH} {b o : Nat} : aload Tryd.prog h 63 (.pointer (some ⟨b, o, none⟩)) = mkLoad o (some (false, 1)) h[b]? := aload_eq Tryd.tyc63
theorem Tryd.loadF63 {h : AH} {c : Array Value} {n : Nat} : aload Tryd.prog h 63 (fp c n) = mkLoadF c n (some (false, 1)) := aload_fp Tryd.tyc63
theorem Tryd.store63 {h : AH} {b o : Nat} {v : Value} : astore Tryd.prog h 63 (.pointer (some ⟨b, o, none⟩)) v = mkStore h b o v (some (false, 1)) h[b]? := astore_eq' Tryd.tyc63
theorem Tryd.some63 : (tyc Tryd.prog 63).isSome = true := by rw [Tryd.tyc63]; rfl
theorem Tryd.tyc64 : tyc Tryd.prog 64 = some (false, 1) := by kernel_rfl
theorem Tryd.load64 {h : AH} {b o : Nat} : aload Tryd.prog h 64 (.pointer (some ⟨b, o, none⟩)) = mkLoad o (some (false, 1)) h[b]? := aload_eq Tryd.tyc64
theorem Tryd.loadF64 {h : AH} {c : Array Value} {n : Nat} : aload Tryd.prog h 64 (fp c n) = mkLoadF c n (some (false, 1)) := aload_fp Tryd.tyc64
theorem Tryd.store64 {h : AH} {b o : Nat} {v : Value} : astore Tryd.prog h 64 (.pointer (some ⟨b, o, none⟩)) v = mkStore h b o v (some (false, 1)) h[b]? := astore_eq' Tryd.tyc64
theorem Tryd.some64 : (tyc Tryd.prog 64).isSome = true := by rw [Tryd.tyc64]; rfl
theorem Tryd.tyc65 : tyc Tryd.prog 65 = some (false, 1) := by kernel_rfl
theorem Tryd.load65 {h : AH} {b o : Nat} : aload Tryd.prog h 65 (.pointer (some ⟨b, o, none⟩)) = mkLoad o (some (false, 1)) h[b]? := aload_eq Tryd.tyc65
theorem Tryd.loadF65 {h : AH} {c : Array Value} {n : Nat} : aload Tryd.prog h 65 (fp c n) = mkLoadF c n (some (false, 1)) := aload_fp Tryd.tyc65
theorem Tryd.store65 {h : AH} {b o : Nat} {v : Value} : astore Tryd.prog h 65 (.pointer (some ⟨b, o, none⟩)) v = mkStore h b o v (some (false, 1)) h[b]? := astore_eq' Tryd.tyc65
theorem Tryd.some65 : (tyc Tryd.prog 65).isSome = true := by rw [Tryd.tyc65]; rfl
theorem Tryd.tyc66 : tyc Tryd.prog 66 = some (false, 1) := by kernel_rfl
theorem Tryd.load66 {h : AH} {b o : Nat} : aload Tryd.prog h 66 (.pointer (some ⟨b, o, none⟩)) = mkLoad o (some (false, 1)) h[b]? := aload_eq Tryd.tyc66
theorem Tryd.loadF66 {h : AH} {c : Array Value} {n : Nat} : aload Tryd.prog h 66 (fp c n) = mkLoadF c n (some (false, 1)) := aload_fp Tryd.tyc66
theorem Tryd.store66 {h : AH} {b o : Nat} {v : Value} : astore Tryd.prog h 66 (.pointer (some ⟨b, o, none⟩)) v = mkStore h b o v (some (false, 1)) h[b]? := astore_eq' Tryd.tyc66
theorem Tryd.some66 : (tyc Tryd.prog 66).isSome = true := by rw [Tryd.tyc66]; rfl
theorem Tryd.tyc67 : tyc Tryd.prog 67 = some (false, 1) := by kernel_rfl
theorem Tryd.load67 {h : AH} {b o : Nat} : aload Tryd.prog h 67 (.pointer (some ⟨b, o, none⟩)) = mkLoad o (some (false, 1)) h[b]? := aload_eq Tryd.tyc67
theorem Tryd.loadF67 {h : AH} {c : Array Value} {n : Nat} : aload Tryd.prog h 67 (fp c n) = mkLoadF c n (some (false, 1)) := aload_fp Tryd.tyc67
theorem Tryd.store67 {h : AH} {b o : Nat} {v : Value} : astore Tryd.prog h 67 (.pointer (some ⟨b, o, none⟩)) v = mkStore h b o v (some (false, 1)) h[b]? := astore_eq' Tryd.tyc67
theorem Tryd.some67 : (tyc Tryd.prog 67).isSome = true := by rw [Tryd.tyc67]; rfl
theorem Tryd.tyc68 : tyc Tryd.prog 68 = some (false, 1) := by kernel_rfl
theorem Tryd.load68 {h : AH} {b o : Nat} : aload Tryd.prog h 68 (.pointer (some ⟨b, o, none⟩)) = mkLoad o (some (false, 1)) h[b]? := aload_eq Tryd.tyc68
theorem Tryd.loadF68 {h : AH} {c : Array Value} {n : Nat} : aload Tryd.prog h 68 (fp c n) = mkLoadF c n (some (false, 1)) := aload_fp Tryd.tyc68
theorem Tryd.store68 {h : AH} {b o : Nat} {v : Value} : astore Tryd.prog h 68 (.pointer (some ⟨b, o, none⟩)) v = mkStore h b o v (some (false, 1)) h[b]? := astore_eq' Tryd.tyc68
theorem Tryd.some68 : (tyc Tryd.prog 68).isSome = true := by rw [Tryd.tyc68]; rfl
theorem Tryd.tyc69 : tyc Tryd.prog 69 = some (false, 1) := by kernel_rfl
theorem Tryd.load69 {h : AH} {b o : Nat} : aload Tryd.prog h 69 (.pointer (some ⟨b, o, none⟩)) = mkLoad o (some (false, 1)) h[b]? := aload_eq Tryd.tyc69
theorem Tryd.loadF69 {h : AH} {c : Array Value} {n : Nat} : aload Tryd.prog h 69 (fp c n) = mkLoadF c n (some (false, 1)) := aload_fp Tryd.tyc69
theorem Tryd.store69 {h : AH} {b o : Nat} {v : Value} : astore Tryd.prog h 69 (.pointer (some ⟨b, o, none⟩)) v = mkStore h b o v (some (false, 1)) h[b]? := astore_eq' Tryd.tyc69
theorem Tryd.some69 : (tyc Tryd.prog 69).isSome = true := by rw [Tryd.tyc69]; rfl
theorem Tryd.tyc70 : tyc Tryd.prog 70 = some (false, 1) := by kernel_rfl
theorem Tryd.load70 {h : AH} {b o : Nat} : aload Tryd.prog h 70 (.pointer (some ⟨b, o, none⟩)) = mkLoad o (some (false, 1)) h[b]? := aload_eq Tryd.tyc70
theorem Tryd.loadF70 {h : AH} {c : Array Value} {n : Nat} : aload Tryd.prog h 70 (fp c n) = mkLoadF c n (some (false, 1)) := aload_fp Tryd.tyc70
theorem Tryd.store70 {h : AH} {b o : Nat} {v : Value} : astore Tryd.prog h 70 (.pointer (some ⟨b, o, none⟩)) v = mkStore h b o v (some (false, 1)) h[b]? := astore_eq' Tryd.tyc70
theorem Tryd.some70 : (tyc Tryd.prog 70).isSome = true := by rw [Tryd.tyc70]; rfl
theorem Tryd.tyc71 : tyc Tryd.prog 71 = some (false, 1) := by kernel_rfl
theorem Tryd.load71 {h : AH} {b o : Nat} : aload Tryd.prog h 71 (.pointer (some ⟨b, o, none⟩)) = mkLoad o (some (false, 1)) h[b]? := aload_eq Tryd.tyc71
theorem Tryd.loadF71 {h : AH} {c : Array Value} {n : Nat} : aload Tryd.prog h 71 (fp c n) = mkLoadF c n (some (false, 1)) := aload_fp Tryd.tyc71
theorem Tryd.store71 {h : AH} {b o : Nat} {v : Value} : astore Tryd.prog h 71 (.pointer (some ⟨b, o, none⟩)) v = mkStore h b o v (some (false, 1)) h[b]? := astore_eq' Tryd.tyc71
theorem Tryd.some71 : (tyc Tryd.prog 71).isSome = true := by rw [Tryd.tyc71]; rfl
theorem Tryd.tyc72 : tyc Tryd.prog 72 = some (false, 1) := by kernel_rfl
theorem Tryd.load72 {h : AH} {b o : Nat} : aload Tryd.prog h 72 (.pointer (some ⟨b, o, none⟩)) = mkLoad o (some (false, 1)) h[b]? := aload_eq Tryd.tyc72
theorem Tryd.loadF72 {h : AH} {c : Array Value} {n : Nat} : aload Tryd.prog h 72 (fp c n) = mkLoadF c n (some (false, 1)) := aload_fp Tryd.tyc72
theorem Tryd.store72 {h : AH} {b o : Nat} {v : Value} : astore Tryd.prog h 72 (.pointer (some ⟨b, o, none⟩)) v = mkStore h b o v (some (false, 1)) h[b]? := astore_eq' Tryd.tyc72
theorem Tryd.some72 : (tyc Tryd.prog 72).isSome = true := by rw [Tryd.tyc72]; rfl
theorem Tryd.tyc73 : tyc Tryd.prog 73 = some (true, 256) := by kernel_rfl
theorem Tryd.load73 {h : AH} {b o : Nat} : aload Tryd.prog h 73 (.pointer (some ⟨b, o, none⟩)) = mkLoad o (some (true, 256)) h[b]? := aload_eq Tryd.tyc73
theorem Tryd.loadF73 {h : AH} {c : Array Value} {n : Nat} : aload Tryd.prog h 73 (fp c n) = mkLoadF c n (some (true, 256)) := aload_fp Tryd.tyc73
theorem Tryd.store73 {h : AH} {b o : Nat} {v : Value} : astore Tryd.prog h 73 (.pointer (some ⟨b, o, none⟩)) v = mkStore h b o v (some (true, 256)) h[b]? := astore_eq' Tryd.tyc73
theorem Tryd.some73 : (tyc Tryd.prog 73).isSome = true := by rw [Tryd.tyc73]; rfl
theorem Tryd.tyc74 : tyc Tryd.prog 74 = some (true, 256) := by kernel_rfl
theorem Tryd.load74 {h : AH} {b o : Nat} : aload Tryd.prog h 74 (.pointer (some ⟨b, o, none⟩)) = mkLoad o (some (true, 256)) h[b]? := aload_eq Tryd.tyc74
theorem Tryd.loadF74 {h : AH} {c : Array Value} {n : Nat} : aload Tryd.prog h 74 (fp c n) = mkLoadF c n (some (true, 256)) := aload_fp Tryd.tyc74
theorem Tryd.store74 {h : AH} {b o : Nat} {v : Value} : astore Tryd.prog h 74 (.pointer (some ⟨b, o, none⟩)) v = mkStore h b o v (some (true, 256)) h[b]? := astore_eq' Tryd.tyc74
theorem Tryd.some74 : (tyc Tryd.prog 74).isSome = true := by rw [Tryd.tyc74]; rfl
theorem Tryd.tyc75 : tyc Tryd.prog 75 = some (false, 1) := by kernel_rfl
theorem Tryd.load75 {h : AH} {b o : Nat} : aload Tryd.prog h 75 (.pointer (some ⟨b, o, none⟩)) = mkLoad o (some (false, 1)) h[b]? := aload_eq Tryd.tyc75
theorem Tryd.loadF75 {h : AH} {c : Array Value} {n : Nat} : aload Tryd.prog h 75 (fp c n) = mkLoadF c n (some (false, 1)) := aload_fp Tryd.tyc75
theorem Tryd.store75 {h : AH} {b o : Nat} {v : Value} : astore Tryd.prog h 75 (.pointer (some ⟨b, o, none⟩)) v = mkStore h b o v (some (false, 1)) h[b]? := astore_eq' Tryd.tyc75
theorem Tryd.some75 : (tyc Tryd.prog 75).isSome = true := by rw [Tryd.tyc75]; rfl
theorem Tryd.tyc76 : tyc Tryd.prog 76 = some (false, 1) := by kernel_rfl
theorem Tryd.load76 {h : AH} {b o : Nat} : aload Tryd.prog h 76 (.pointer (some ⟨b, o, none⟩)) = mkLoad o (some (false, 1)) h[b]? := aload_eq Tryd.tyc76
theorem Tryd.loadF76 {h : AH} {c : Array Value} {n : Nat} : aload Tryd.prog h 76 (fp c n) = mkLoadF c n (some (false, 1)) := aload_fp Tryd.tyc76
theorem Tryd.store76 {h : AH} {b o : Nat} {v : Value} : astore Tryd.prog h 76 (.pointer (some ⟨b, o, none⟩)) v = mkStore h b o v (some (false, 1)) h[b]? := astore_eq' Tryd.tyc76
theorem Tryd.some76 : (tyc Tryd.prog 76).isSome = true := by rw [Tryd.tyc76]; rfl
theorem Tryd.tyc77 : tyc Tryd.prog 77 = some (false, 1) := by kernel_rfl
theorem Tryd.load77 {h : AH} {b o : Nat} : aload Tryd.prog h 77 (.pointer (some ⟨b, o, none⟩)) = mkLoad o (some (false, 1)) h[b]? := aload_eq Tryd.tyc77
theorem Tryd.loadF77 {h : AH} {c : Array Value} {n : Nat} : aload Tryd.prog h 77 (fp c n) = mkLoadF c n (some (false, 1)) := aload_fp Tryd.tyc77
theorem Tryd.store77 {h : AH} {b o : Nat} {v : Value} : astore Tryd.prog h 77 (.pointer (some ⟨b, o, none⟩)) v = mkStore h b o v (some (false, 1)) h[b]? := astore_eq' Tryd.tyc77
theorem Tryd.some77 : (tyc Tryd.prog 77).isSome = true := by rw [Tryd.tyc77]; rfl
theorem Tryd.tyc78 : tyc Tryd.prog 78 = some (false, 1) := by kernel_rfl
theorem Tryd.load78 {h : AH} {b o : Nat} : aload Tryd.prog h 78 (.pointer (some ⟨b, o, none⟩)) = mkLoad o (some (false, 1)) h[b]? := aload_eq Tryd.tyc78
theorem Tryd.loadF78 {h : AH} {c : Array Value} {n : Nat} : aload Tryd.prog h 78 (fp c n) = mkLoadF c n (some (false, 1)) := aload_fp Tryd.tyc78
theorem Tryd.store78 {h : AH} {b o : Nat} {v : Value} : astore Tryd.prog h 78 (.pointer (some ⟨b, o, none⟩)) v = mkStore h b o v (some (false, 1)) h[b]? := astore_eq' Tryd.tyc78
theorem Tryd.some78 : (tyc Tryd.prog 78).isSome = true := by rw [Tryd.tyc78]; rfl
theorem Tryd.tyc79 : tyc Tryd.prog 79 = some (false, 1) := by kernel_rfl
theorem Tryd.load79 {h : AH} {b o : Nat} : aload Tryd.prog h 79 (.pointer (some ⟨b, o, none⟩)) = mkLoad o (some (false, 1)) h[b]? := aload_eq Tryd.tyc79
theorem Tryd.loadF79 {h : AH} {c : Array Value} {n : Nat} : aload Tryd.prog h 79 (fp c n) = mkLoadF c n (some (false, 1)) := aload_fp Tryd.tyc79
theorem Tryd.store79 {h : AH} {b o : Nat} {v : Value} : astore Tryd.prog h 79 (.pointer (some ⟨b, o, none⟩)) v = mkStore h b o v (some (false, 1)) h[b]? := astore_eq' Tryd.tyc79
theorem Tryd.some79 : (tyc Tryd.prog 79).isSome = true := by rw [Tryd.tyc79]; rfl
theorem Tryd.tyc80 : tyc Tryd.prog 80 = some (false, 1) := by kernel_rfl
theorem Tryd.load80 {h : AH} {b o : Nat} : aload Tryd.prog h 80 (.pointer (some ⟨b, o, none⟩)) = mkLoad o (some (false, 1)) h[b]? := aload_eq Tryd.tyc80
theorem Tryd.loadF80 {h : AH} {c : Array Value} {n : Nat} : aload Tryd.prog h 80 (fp c n) = mkLoadF c n (some (false, 1)) := aload_fp Tryd.tyc80
theorem Tryd.store80 {h : AH} {b o : Nat} {v : Value} : astore Tryd.prog h 80 (.pointer (some ⟨b, o, none⟩)) v = mkStore h b o v (some (false, 1)) h[b]? := astore_eq' Tryd.tyc80
theorem Tryd.some80 : (tyc Tryd.prog 80).isSome = true := by rw [Tryd.tyc80]; rfl
theorem Tryd.tyc81 : tyc Tryd.prog 81 = some (false, 1) := by kernel_rfl
theorem Tryd.load81 {h : AH} {b o : Nat} : aload Tryd.prog h 81 (.pointer (some ⟨b, o, none⟩)) = mkLoad o (some (false, 1)) h[b]? := aload_eq Tryd.tyc81
theorem Tryd.loadF81 {h : AH} {c : Array Value} {n : Nat} : aload Tryd.prog h 81 (fp c n) = mkLoadF c n (some (false, 1)) := aload_fp Tryd.tyc81
theorem Tryd.store81 {h : AH} {b o : Nat} {v : Value} : astore Tryd.prog h 81 (.pointer (some ⟨b, o, none⟩)) v = mkStore h b o v (some (false, 1)) h[b]? := astore_eq' Tryd.tyc81
theorem Tryd.some81 : (tyc Tryd.prog 81).isSome = true := by rw [Tryd.tyc81]; rfl
theorem Tryd.tyc82 : tyc Tryd.prog 82 = some (false, 1) := by kernel_rfl
theorem Tryd.load82 {h : AH} {b o : Nat} : aload Tryd.prog h 82 (.pointer (some ⟨b, o, none⟩)) = mkLoad o (some (false, 1)) h[b]? := aload_eq Tryd.tyc82
theorem Tryd.loadF82 {h : AH} {c : Array Value} {n : Nat} : aload Tryd.prog h 82 (fp c n) = mkLoadF c n (some (false, 1)) := aload_fp Tryd.tyc82
theorem Tryd.store82 {h : AH} {b o : Nat} {v : Value} : astore Tryd.prog h 82 (.pointer (some ⟨b, o, none⟩)) v = mkStore h b o v (some (false, 1)) h[b]? := astore_eq' Tryd.tyc82
theorem Tryd.some82 : (tyc Tryd.prog 82).isSome = true := by rw [Tryd.tyc82]; rfl
theorem Tryd.tyc83 : tyc Tryd.prog 83 = some (false, 1) := by kernel_rfl
theorem Tryd.load83 {h : AH} {b o : Nat} : aload Tryd.prog h 83 (.pointer (some ⟨b, o, none⟩)) = mkLoad o (some (false, 1)) h[b]? := aload_eq Tryd.tyc83
theorem Tryd.loadF83 {h : AH} {c : Array Value} {n : Nat} : aload Tryd.prog h 83 (fp c n) = mkLoadF c n (some (false, 1)) := aload_fp Tryd.tyc83
theorem Tryd.store83 {h : AH} {b o : Nat} {v : Value} : astore Tryd.prog h 83 (.pointer (some ⟨b, o, none⟩)) v = mkStore h b o v (some (false, 1)) h[b]? := astore_eq' Tryd.tyc83
theorem Tryd.some83 : (tyc Tryd.prog 83).isSome = true := by rw [Tryd.tyc83]; rfl
theorem Tryd.tyc84 : tyc Tryd.prog 84 = some (false, 1) := by kernel_rfl
theorem Tryd.load84 {h : AH} {b o : Nat} : aload Tryd.prog h 84 (.pointer (some ⟨b, o, none⟩)) = mkLoad o (some (false, 1)) h[b]? := aload_eq Tryd.tyc84
theorem Tryd.loadF84 {h : AH} {c : Array Value} {n : Nat} : aload Tryd.prog h 84 (fp c n) = mkLoadF c n (some (false, 1)) := aload_fp Tryd.tyc84
theorem Tryd.store84 {h : AH} {b o : Nat} {v : Value} : astore Tryd.prog h 84 (.pointer (some ⟨b, o, none⟩)) v = mkStore h b o v (some (false, 1)) h[b]? := astore_eq' Tryd.tyc84
theorem Tryd.some84 : (tyc Tryd.prog 84).isSome = true := by rw [Tryd.tyc84]; rfl
theorem Tryd.tyc85 : tyc Tryd.prog 85 = some (false, 1) := by kernel_rfl
theorem Tryd.load85 {h : AH} {b o : Nat} : aload Tryd.prog h 85 (.pointer (some ⟨b, o, none⟩)) = mkLoad o (some (false, 1)) h[b]? := aload_eq Tryd.tyc85
theorem Tryd.loadF85 {h : AH} {c : Array Value} {n : Nat} : aload Tryd.prog h 85 (fp c n) = mkLoadF c n (some (false, 1)) := aload_fp Tryd.tyc85
theorem Tryd.store85 {h : AH} {b o : Nat} {v : Value} : astore Tryd.prog h 85 (.pointer (some ⟨b, o, none⟩)) v = mkStore h b o v (some (false, 1)) h[b]? := astore_eq' Tryd.tyc85
theorem Tryd.some85 : (tyc Tryd.prog 85).isSome = true := by rw [Tryd.tyc85]; rfl
theorem Tryd.tyc86 : tyc Tryd.prog 86 = some (false, 1) := by kernel_rfl
theorem Tryd.load86 {h : AH} {b o : Nat} : aload Tryd.prog h 86 (.pointer (some ⟨b, o, none⟩)) = mkLoad o (some (false, 1)) h[b]? := aload_eq Tryd.tyc86
theorem Tryd.loadF86 {h : AH} {c : Array Value} {n : Nat} : aload Tryd.prog h 86 (fp c n) = mkLoadF c n (some (false, 1)) := aload_fp Tryd.tyc86
theorem Tryd.store86 {h : AH} {b o : Nat} {v : Value} : astore Tryd.prog h 86 (.pointer (some ⟨b, o, none⟩)) v = mkStore h b o v (some (false, 1)) h[b]? := astore_eq' Tryd.tyc86
theorem Tryd.some86 : (tyc Tryd.prog 86).isSome = true := by rw [Tryd.tyc86]; rfl
theorem Tryd.tyc87 : tyc Tryd.prog 87 = some (false, 1) := by kernel_rfl
theorem Tryd.load87 {h : AH} {b o : Nat} : aload Tryd.prog h 87 (.pointer (some ⟨b, o, none⟩)) = mkLoad o (some (false, 1)) h[b]? := aload_eq Tryd.tyc87
theorem Tryd.loadF87 {h : AH} {c : Array Value} {n : Nat} : aload Tryd.prog h 87 (fp c n) = mkLoadF c n (some (false, 1)) := aload_fp Tryd.tyc87
theorem Tryd.store87 {h : AH} {b o : Nat} {v : Value} : astore Tryd.prog h 87 (.pointer (some ⟨b, o, none⟩)) v = mkStore h b o v (some (false, 1)) h[b]? := astore_eq' Tryd.tyc87
theorem Tryd.some87 : (tyc Tryd.prog 87).isSome = true := by rw [Tryd.tyc87]; rfl
theorem Tryd.tyc88 : tyc Tryd.prog 88 = some (false, 1) := by kernel_rfl
theorem Tryd.load88 {h : AH} {b o : Nat} : aload Tryd.prog h 88 (.pointer (some ⟨b, o, none⟩)) = mkLoad o (some (false, 1)) h[b]? := aload_eq Tryd.tyc88
theorem Tryd.loadF88 {h : AH} {c : Array Value} {n : Nat} : aload Tryd.prog h 88 (fp c n) = mkLoadF c n (some (false, 1)) := aload_fp Tryd.tyc88
theorem Tryd.store88 {h : AH} {b o : Nat} {v : Value} : astore Tryd.prog h 88 (.pointer (some ⟨b, o, none⟩)) v = mkStore h b o v (some (false, 1)) h[b]? := astore_eq' Tryd.tyc88
theorem Tryd.some88 : (tyc Tryd.prog 88).isSome = true := by rw [Tryd.tyc88]; rfl
theorem Tryd.tyc89 : tyc Tryd.prog 89 = some (false, 1) := by kernel_rfl
theorem Tryd.load89 {h : AH} {b o : Nat} : aload Tryd.prog h 89 (.pointer (some ⟨b, o, none⟩)) = mkLoad o (some (false, 1)) h[b]? := aload_eq Tryd.tyc89
theorem Tryd.loadF89 {h : AH} {c : Array Value} {n : Nat} : aload Tryd.prog h 89 (fp c n) = mkLoadF c n (some (false, 1)) := aload_fp Tryd.tyc89
theorem Tryd.store89 {h : AH} {b o : Nat} {v : Value} : astore Tryd.prog h 89 (.pointer (some ⟨b, o, none⟩)) v = mkStore h b o v (some (false, 1)) h[b]? := astore_eq' Tryd.tyc89
theorem Tryd.some89 : (tyc Tryd.prog 89).isSome = true := by rw [Tryd.tyc89]; rfl
theorem Tryd.tyc90 : tyc Tryd.prog 90 = some (false, 1) := by kernel_rfl
theorem Tryd.load90 {h : AH} {b o : Nat} : aload Tryd.prog h 90 (.pointer (some ⟨b, o, none⟩)) = mkLoad o (some (false, 1)) h[b]? := aload_eq Tryd.tyc90
theorem Tryd.loadF90 {h : AH} {c : Array Value} {n : Nat} : aload Tryd.prog h 90 (fp c n) = mkLoadF c n (some (false, 1)) := aload_fp Tryd.tyc90
theorem Tryd.store90 {h : AH} {b o : Nat} {v : Value} : astore Tryd.prog h 90 (.pointer (some ⟨b, o, none⟩)) v = mkStore h b o v (some (false, 1)) h[b]? := astore_eq' Tryd.tyc90
theorem Tryd.some90 : (tyc Tryd.prog 90).isSome = true := by rw [Tryd.tyc90]; rfl
theorem Tryd.tyc91 : tyc Tryd.prog 91 = some (false, 1) := by kernel_rfl
theorem Tryd.load91 {h : AH} {b o : Nat} : aload Tryd.prog h 91 (.pointer (some ⟨b, o, none⟩)) = mkLoad o (some (false, 1)) h[b]? := aload_eq Tryd.tyc91
theorem Tryd.loadF91 {h : AH} {c : Array Value} {n : Nat} : aload Tryd.prog h 91 (fp c n) = mkLoadF c n (some (false, 1)) := aload_fp Tryd.tyc91
theorem Tryd.store91 {h : AH} {b o : Nat} {v : Value} : astore Tryd.prog h 91 (.pointer (some ⟨b, o, none⟩)) v = mkStore h b o v (some (false, 1)) h[b]? := astore_eq' Tryd.tyc91
theorem Tryd.some91 : (tyc Tryd.prog 91).isSome = true := by rw [Tryd.tyc91]; rfl
theorem Tryd.tyc92 : tyc Tryd.prog 92 = some (false, 1) := by kernel_rfl
theorem Tryd.load92 {h : AH} {b o : Nat} : aload Tryd.prog h 92 (.pointer (some ⟨b, o, none⟩)) = mkLoad o (some (false, 1)) h[b]? := aload_eq Tryd.tyc92
theorem Tryd.loadF92 {h : AH} {c : Array Value} {n : Nat} : aload Tryd.prog h 92 (fp c n) = mkLoadF c n (some (false, 1)) := aload_fp Tryd.tyc92
theorem Tryd.store92 {h : AH} {b o : Nat} {v : Value} : astore Tryd.prog h 92 (.pointer (some ⟨b, o, none⟩)) v = mkStore h b o v (some (false, 1)) h[b]? := astore_eq' Tryd.tyc92
theorem Tryd.some92 : (tyc Tryd.prog 92).isSome = true := by rw [Tryd.tyc92]; rfl
theorem Tryd.tyc93 : tyc Tryd.prog 93 = some (false, 1) := by kernel_rfl
theorem Tryd.load93 {h : AH} {b o : Nat} : aload Tryd.prog h 93 (.pointer (some ⟨b, o, none⟩)) = mkLoad o (some (false, 1)) h[b]? := aload_eq Tryd.tyc93
theorem Tryd.loadF93 {h : AH} {c : Array Value} {n : Nat} : aload Tryd.prog h 93 (fp c n) = mkLoadF c n (some (false, 1)) := aload_fp Tryd.tyc93
theorem Tryd.store93 {h : AH} {b o : Nat} {v : Value} : astore Tryd.prog h 93 (.pointer (some ⟨b, o, none⟩)) v = mkStore h b o v (some (false, 1)) h[b]? := astore_eq' Tryd.tyc93
theorem Tryd.some93 : (tyc Tryd.prog 93).isSome = true := by rw [Tryd.tyc93]; rfl
theorem Tryd.tyc94 : tyc Tryd.prog 94 = some (false, 1) := by kernel_rfl
theorem Tryd.load94 {h : AH} {b o : Nat} : aload Tryd.prog h 94 (.pointer (some ⟨b, o, none⟩)) = mkLoad o (some (false, 1)) h[b]? := aload_eq Tryd.tyc94
theorem Tryd.loadF94 {h : AH} {c : Array Value} {n : Nat} : aload Tryd.prog h 94 (fp c n) = mkLoadF c n (some (false, 1)) := aload_fp Tryd.tyc94
theorem Tryd.store94 {h : AH} {b o : Nat} {v : Value} : astore Tryd.prog h 94 (.pointer (some ⟨b, o, none⟩)) v = mkStore h b o v (some (false, 1)) h[b]? := astore_eq' Tryd.tyc94
theorem Tryd.some94 : (tyc Tryd.prog 94).isSome = true := by rw [Tryd.tyc94]; rfl
theorem Tryd.tyc95 : tyc Tryd.prog 95 = some (false, 1) := by kernel_rfl
theorem Tryd.load95 {h : AH} {b o : Nat} : aload Tryd.prog h 95 (.pointer (some ⟨b, o, none⟩)) = mkLoad o (some (false, 1)) h[b]? := aload_eq Tryd.tyc95
theorem Tryd.loadF95 {h : AH} {c : Array Value} {n : Nat} : aload Tryd.prog h 95 (fp c n) = mkLoadF c n (some (false, 1)) := aload_fp Tryd.tyc95
theorem Tryd.store95 {h : AH} {b o : Nat} {v : Value} : astore Tryd.prog h 95 (.pointer (some ⟨b, o, none⟩)) v = mkStore h b o v (some (false, 1)) h[b]? := astore_eq' Tryd.tyc95
theorem Tryd.some95 : (tyc Tryd.prog 95).isSome = true := by rw [Tryd.tyc95]; rfl
theorem Tryd.tyc96 : tyc Tryd.prog 96 = some (false, 1) := by kernel_rfl
theorem Tryd.load96 {h : AH} {b o : Nat} : aload Tryd.prog h 96 (.pointer (some ⟨b, o, none⟩)) = mkLoad o (some (false, 1)) h[b]? := aload_eq Tryd.tyc96
theorem Tryd.loadF96 {h : AH} {c : Array Value} {n : Nat} : aload Tryd.prog h 96 (fp c n) = mkLoadF c n (some (false, 1)) := aload_fp Tryd.tyc96
theorem Tryd.store96 {h : AH} {b o : Nat} {v : Value} : astore Tryd.prog h 96 (.pointer (some ⟨b, o, none⟩)) v = mkStore h b o v (some (false, 1)) h[b]? := astore_eq' Tryd.tyc96
theorem Tryd.some96 : (tyc Tryd.prog 96).isSome = true := by rw [Tryd.tyc96]; rfl
theorem Tryd.tyc97 : tyc Tryd.prog 97 = some (true, 256) := by kernel_rfl
theorem Tryd.load97 {h : AH} {b o : Nat} : aload Tryd.prog h 97 (.pointer (some ⟨b, o, none⟩)) = mkLoad o (some (true, 256)) h[b]? := aload_eq Tryd.tyc97
theorem Tryd.loadF97 {h : AH} {c : Array Value} {n : Nat} : aload Tryd.prog h 97 (fp c n) = mkLoadF c n (some (true, 256)) := aload_fp Tryd.tyc97
theorem Tryd.store97 {h : AH} {b o : Nat} {v : Value} : astore Tryd.prog h 97 (.pointer (some ⟨b, o, none⟩)) v = mkStore h b o v (some (true, 256)) h[b]? := astore_eq' Tryd.tyc97
theorem Tryd.some97 : (tyc Tryd.prog 97).isSome = true := by rw [Tryd.tyc97]; rfl
theorem Tryd.tyc98 : tyc Tryd.prog 98 = some (true, 2) := by kernel_rfl
theorem Tryd.load98 {h : AH} {b o : Nat} : aload Tryd.prog h 98 (.pointer (some ⟨b, o, none⟩)) = mkLoad o (some (true, 2)) h[b]? := aload_eq Tryd.tyc98
theorem Tryd.loadF98 {h : AH} {c : Array Value} {n : Nat} : aload Tryd.prog h 98 (fp c n) = mkLoadF c n (some (true, 2)) := aload_fp Tryd.tyc98
theorem Tryd.store98 {h : AH} {b o : Nat} {v : Value} : astore Tryd.prog h 98 (.pointer (some ⟨b, o, none⟩)) v = mkStore h b o v (some (true, 2)) h[b]? := astore_eq' Tryd.tyc98
theorem Tryd.some98 : (tyc Tryd.prog 98).isSome = true := by rw [Tryd.tyc98]; rfl
theorem Tryd.tyc99 : tyc Tryd.prog 99 = some (true, 2) := by kernel_rfl
theorem Tryd.load99 {h : AH} {b o : Nat} : aload Tryd.prog h 99 (.pointer (some ⟨b, o, none⟩)) = mkLoad o (some (true, 2)) h[b]? := aload_eq Tryd.tyc99
theorem Tryd.loadF99 {h : AH} {c : Array Value} {n : Nat} : aload Tryd.prog h 99 (fp c n) = mkLoadF c n (some (true, 2)) := aload_fp Tryd.tyc99
theorem Tryd.store99 {h : AH} {b o : Nat} {v : Value} : astore Tryd.prog h 99 (.pointer (some ⟨b, o, none⟩)) v = mkStore h b o v (some (true, 2)) h[b]? := astore_eq' Tryd.tyc99
theorem Tryd.some99 : (tyc Tryd.prog 99).isSome = true := by rw [Tryd.tyc99]; rfl
theorem Tryd.tyc100 : tyc Tryd.prog 100 = some (true, 32) := by kernel_rfl
theorem Tryd.load100 {h : AH} {b o : Nat} : aload Tryd.prog h 100 (.pointer (some ⟨b, o, none⟩)) = mkLoad o (some (true, 32)) h[b]? := aload_eq Tryd.tyc100
theorem Tryd.loadF100 {h : AH} {c : Array Value} {n : Nat} : aload Tryd.prog h 100 (fp c n) = mkLoadF c n (some (true, 32)) := aload_fp Tryd.tyc100
theorem Tryd.store100 {h : AH} {b o : Nat} {v : Value} : astore Tryd.prog h 100 (.pointer (some ⟨b, o, none⟩)) v = mkStore h b o v (some (true, 32)) h[b]? := astore_eq' Tryd.tyc100
theorem Tryd.some100 : (tyc Tryd.prog 100).isSome = true := by rw [Tryd.tyc100]; rfl
theorem Tryd.tyc101 : tyc Tryd.prog 101 = some (false, 1) := by kernel_rfl
theorem Tryd.load101 {h : AH} {b o : Nat} : aload Tryd.prog h 101 (.pointer (some ⟨b, o, none⟩)) = mkLoad o (some (false, 1)) h[b]? := aload_eq Tryd.tyc101
theorem Tryd.loadF101 {h : AH} {c : Array Value} {n : Nat} : aload Tryd.prog h 101 (fp c n) = mkLoadF c n (some (false, 1)) := aload_fp Tryd.tyc101
theorem Tryd.store101 {h : AH} {b o : Nat} {v : Value} : astore Tryd.prog h 101 (.pointer (some ⟨b, o, none⟩)) v = mkStore h b o v (some (false, 1)) h[b]? := astore_eq' Tryd.tyc101
theorem Tryd.some101 : (tyc Tryd.prog 101).isSome = true := by rw [Tryd.tyc101]; rfl
theorem Tryd.tyc102 : tyc Tryd.prog 102 = some (false, 1) := by kernel_rfl
theorem Tryd.load102 {h : AH} {b o : Nat} : aload Tryd.prog h 102 (.pointer (some ⟨b, o, none⟩)) = mkLoad o (some (false, 1)) h[b]? := aload_eq Tryd.tyc102
theorem Tryd.loadF102 {h : AH} {c : Array Value} {n : Nat} : aload Tryd.prog h 102 (fp c n) = mkLoadF c n (some (false, 1)) := aload_fp Tryd.tyc102
theorem Tryd.store102 {h : AH} {b o : Nat} {v : Value} : astore Tryd.prog h 102 (.pointer (some ⟨b, o, none⟩)) v = mkStore h b o v (some (false, 1)) h[b]? := astore_eq' Tryd.tyc102
theorem Tryd.some102 : (tyc Tryd.prog 102).isSome = true := by rw [Tryd.tyc102]; rfl
theorem Tryd.tyc103 : tyc Tryd.prog 103 = some (false, 1) := by kernel_rfl
theorem Tryd.load103 {h : AH} {b o : Nat} : aload Tryd.prog h 103 (.pointer (some ⟨b, o, none⟩)) = mkLoad o (some (false, 1)) h[b]? := aload_eq Tryd.tyc103
theorem Tryd.loadF103 {h : AH} {c : Array Value} {n : Nat} : aload Tryd.prog h 103 (fp c n) = mkLoadF c n (some (false, 1)) := aload_fp Tryd.tyc103
theorem Tryd.store103 {h : AH} {b o : Nat} {v : Value} : astore Tryd.prog h 103 (.pointer (some ⟨b, o, none⟩)) v = mkStore h b o v (some (false, 1)) h[b]? := astore_eq' Tryd.tyc103
theorem Tryd.some103 : (tyc Tryd.prog 103).isSome = true := by rw [Tryd.tyc103]; rfl
theorem Tryd.tyc104 : tyc Tryd.prog 104 = some (false, 1) := by kernel_rfl
theorem Tryd.load104 {h : AH} {b o : Nat} : aload Tryd.prog h 104 (.pointer (some ⟨b, o, none⟩)) = mkLoad o (some (false, 1)) h[b]? := aload_eq Tryd.tyc104
theorem Tryd.loadF104 {h : AH} {c : Array Value} {n : Nat} : aload Tryd.prog h 104 (fp c n) = mkLoadF c n (some (false, 1)) := aload_fp Tryd.tyc104
theorem Tryd.store104 {h : AH} {b o : Nat} {v : Value} : astore Tryd.prog h 104 (.pointer (some ⟨b, o, none⟩)) v = mkStore h b o v (some (false, 1)) h[b]? := astore_eq' Tryd.tyc104
theorem Tryd.some104 : (tyc Tryd.prog 104).isSome = true := by rw [Tryd.tyc104]; rfl
theorem Tryd.tyc105 : tyc Tryd.prog 105 = some (true, 4) := by kernel_rfl
theorem Tryd.load105 {h : AH} {b o : Nat} : aload Tryd.prog h 105 (.pointer (some ⟨b, o, none⟩)) = mkLoad o (some (true, 4)) h[b]? := aload_eq Tryd.tyc105
theorem Tryd.loadF105 {h : AH} {c : Array Value} {n : Nat} : aload Tryd.prog h 105 (fp c n) = mkLoadF c n (some (true, 4)) := aload_fp Tryd.tyc105
theorem Tryd.store105 {h : AH} {b o : Nat} {v : Value} : astore Tryd.prog h 105 (.pointer (some ⟨b, o, none⟩)) v = mkStore h b o v (some (true, 4)) h[b]? := astore_eq' Tryd.tyc105
theorem Tryd.some105 : (tyc Tryd.prog 105).isSome = true := by rw [Tryd.tyc105]; rfl
theorem Tryd.tyc106 : tyc Tryd.prog 106 = some (true, 4) := by kernel_rfl
theorem Tryd.load106 {h : AH} {b o : Nat} : aload Tryd.prog h 106 (.pointer (some ⟨b, o, none⟩)) = mkLoad o (some (true, 4)) h[b]? := aload_eq Tryd.tyc106
theorem Tryd.loadF106 {h : AH} {c : Array Value} {n : Nat} : aload Tryd.prog h 106 (fp c n) = mkLoadF c n (some (true, 4)) := aload_fp Tryd.tyc106
theorem Tryd.store106 {h : AH} {b o : Nat} {v : Value} : astore Tryd.prog h 106 (.pointer (some ⟨b, o, none⟩)) v = mkStore h b o v (some (true, 4)) h[b]? := astore_eq' Tryd.tyc106
theorem Tryd.some106 : (tyc Tryd.prog 106).isSome = true := by rw [Tryd.tyc106]; rfl
theorem Tryd.tyc107 : tyc Tryd.prog 107 = some (true, 0) := by kernel_rfl
theorem Tryd.load107 {h : AH} {b o : Nat} : aload Tryd.prog h 107 (.pointer (some ⟨b, o, none⟩)) = mkLoad o (some (true, 0)) h[b]? := aload_eq Tryd.tyc107
theorem Tryd.loadF107 {h : AH} {c : Array Value} {n : Nat} : aload Tryd.prog h 107 (fp c n) = mkLoadF c n (some (true, 0)) := aload_fp Tryd.tyc107
theorem Tryd.store107 {h : AH} {b o : Nat} {v : Value} : astore Tryd.prog h 107 (.pointer (some ⟨b, o, none⟩)) v = mkStore h b o v (some (true, 0)) h[b]? := astore_eq' Tryd.tyc107
theorem Tryd.some107 : (tyc Tryd.prog 107).isSome = true := by rw [Tryd.tyc107]; rfl
theorem Tryd.tyc108 : tyc Tryd.prog 108 = some (true, 0) := by kernel_rfl
theorem Tryd.load108 {h : AH} {b o : Nat} : aload Tryd.prog h 108 (.pointer (some ⟨b, o, none⟩)) = mkLoad o (some (true, 0)) h[b]? := aload_eq Tryd.tyc108
theorem Tryd.loadF108 {h : AH} {c : Array Value} {n : Nat} : aload Tryd.prog h 108 (fp c n) = mkLoadF c n (some (true, 0)) := aload_fp Tryd.tyc108
theorem Tryd.store108 {h : AH} {b o : Nat} {v : Value} : astore Tryd.prog h 108 (.pointer (some ⟨b, o, none⟩)) v = mkStore h b o v (some (true, 0)) h[b]? := astore_eq' Tryd.tyc108
theorem Tryd.some108 : (tyc Tryd.prog 108).isSome = true := by rw [Tryd.tyc108]; rfl
theorem Tryd.tyc109 : tyc Tryd.prog 109 = some (true, 0) := by kernel_rfl
theorem Tryd.load109 {h : AH} {b o : Nat} : aload Tryd.prog h 109 (.pointer (some ⟨b, o, none⟩)) = mkLoad o (some (true, 0)) h[b]? := aload_eq Tryd.tyc109
theorem Tryd.loadF109 {h : AH} {c : Array Value} {n : Nat} : aload Tryd.prog h 109 (fp c n) = mkLoadF c n (some (true, 0)) := aload_fp Tryd.tyc109
theorem Tryd.store109 {h : AH} {b o : Nat} {v : Value} : astore Tryd.prog h 109 (.pointer (some ⟨b, o, none⟩)) v = mkStore h b o v (some (true, 0)) h[b]? := astore_eq' Tryd.tyc109
theorem Tryd.some109 : (tyc Tryd.prog 109).isSome = true := by rw [Tryd.tyc109]; rfl
theorem Tryd.tyc110 : tyc Tryd.prog 110 = some (false, 1) := by kernel_rfl
theorem Tryd.load110 {h : AH} {b o : Nat} : aload Tryd.prog h 110 (.pointer (some ⟨b, o, none⟩)) = mkLoad o (some (false, 1)) h[b]? := aload_eq Tryd.tyc110
theorem Tryd.loadF110 {h : AH} {c : Array Value} {n : Nat} : aload Tryd.prog h 110 (fp c n) = mkLoadF c n (some (false, 1)) := aload_fp Tryd.tyc110
theorem Tryd.store110 {h : AH} {b o : Nat} {v : Value} : astore Tryd.prog h 110 (.pointer (some ⟨b, o, none⟩)) v = mkStore h b o v (some (false, 1)) h[b]? := astore_eq' Tryd.tyc110
theorem Tryd.some110 : (tyc Tryd.prog 110).isSome = true := by rw [Tryd.tyc110]; rfl
theorem Tryd.tyc111 : tyc Tryd.prog 111 = some (false, 1) := by kernel_rfl
theorem Tryd.load111 {h : AH} {b o : Nat} : aload Tryd.prog h 111 (.pointer (some ⟨b, o, none⟩)) = mkLoad o (some (false, 1)) h[b]? := aload_eq Tryd.tyc111
theorem Tryd.loadF111 {h : AH} {c : Array Value} {n : Nat} : aload Tryd.prog h 111 (fp c n) = mkLoadF c n (some (false, 1)) := aload_fp Tryd.tyc111
theorem Tryd.store111 {h : AH} {b o : Nat} {v : Value} : astore Tryd.prog h 111 (.pointer (some ⟨b, o, none⟩)) v = mkStore h b o v (some (false, 1)) h[b]? := astore_eq' Tryd.tyc111
theorem Tryd.some111 : (tyc Tryd.prog 111).isSome = true := by rw [Tryd.tyc111]; rfl
theorem Tryd.tyc112 : tyc Tryd.prog 112 = some (false, 1) := by kernel_rfl
theorem Tryd.load112 {h : AH} {b o : Nat} : aload Tryd.prog h 112 (.pointer (some ⟨b, o, none⟩)) = mkLoad o (some (false, 1)) h[b]? := aload_eq Tryd.tyc112
theorem Tryd.loadF112 {h : AH} {c : Array Value} {n : Nat} : aload Tryd.prog h 112 (fp c n) = mkLoadF c n (some (false, 1)) := aload_fp Tryd.tyc112
theorem Tryd.store112 {h : AH} {b o : Nat} {v : Value} : astore Tryd.prog h 112 (.pointer (some ⟨b, o, none⟩)) v = mkStore h b o v (some (false, 1)) h[b]? := astore_eq' Tryd.tyc112
theorem Tryd.some112 : (tyc Tryd.prog 112).isSome = true := by rw [Tryd.tyc112]; rfl
theorem Tryd.tyc113 : tyc Tryd.prog 113 = some (false, 1) := by kernel_rfl
theorem Tryd.load113 {h : AH} {b o : Nat} : aload Tryd.prog h 113 (.pointer (some ⟨b, o, none⟩)) = mkLoad o (some (false, 1)) h[b]? := aload_eq Tryd.tyc113
theorem Tryd.loadF113 {h : AH} {c : Array Value} {n : Nat} : aload Tryd.prog h 113 (fp c n) = mkLoadF c n (some (false, 1)) := aload_fp Tryd.tyc113
theorem Tryd.store113 {h : AH} {b o : Nat} {v : Value} : astore Tryd.prog h 113 (.pointer (some ⟨b, o, none⟩)) v = mkStore h b o v (some (false, 1)) h[b]? := astore_eq' Tryd.tyc113
theorem Tryd.some113 : (tyc Tryd.prog 113).isSome = true := by rw [Tryd.tyc113]; rfl
theorem Tryd.tyc114 : tyc Tryd.prog 114 = some (false, 1) := by kernel_rfl
theorem Tryd.load114 {h : AH} {b o : Nat} : aload Tryd.prog h 114 (.pointer (some ⟨b, o, none⟩)) = mkLoad o (some (false, 1)) h[b]? := aload_eq Tryd.tyc114
theorem Tryd.loadF114 {h : AH} {c : Array Value} {n : Nat} : aload Tryd.prog h 114 (fp c n) = mkLoadF c n (some (false, 1)) := aload_fp Tryd.tyc114
theorem Tryd.store114 {h : AH} {b o : Nat} {v : Value} : astore Tryd.prog h 114 (.pointer (some ⟨b, o, none⟩)) v = mkStore h b o v (some (false, 1)) h[b]? := astore_eq' Tryd.tyc114
theorem Tryd.some114 : (tyc Tryd.prog 114).isSome = true := by rw [Tryd.tyc114]; rfl
theorem Tryd.tyc115 : tyc Tryd.prog 115 = some (false, 1) := by kernel_rfl
theorem Tryd.load115 {h : AH} {b o : Nat} : aload Tryd.prog h 115 (.pointer (some ⟨b, o, none⟩)) = mkLoad o (some (false, 1)) h[b]? := aload_eq Tryd.tyc115
theorem Tryd.loadF115 {h : AH} {c : Array Value} {n : Nat} : aload Tryd.prog h 115 (fp c n) = mkLoadF c n (some (false, 1)) := aload_fp Tryd.tyc115
theorem Tryd.store115 {h : AH} {b o : Nat} {v : Value} : astore Tryd.prog h 115 (.pointer (some ⟨b, o, none⟩)) v = mkStore h b o v (some (false, 1)) h[b]? := astore_eq' Tryd.tyc115
theorem Tryd.some115 : (tyc Tryd.prog 115).isSome = true := by rw [Tryd.tyc115]; rfl
theorem Tryd.tyc116 : tyc Tryd.prog 116 = some (false, 1) := by kernel_rfl
theorem Tryd.load116 {h : AH} {b o : Nat} : aload Tryd.prog h 116 (.pointer (some ⟨b, o, none⟩)) = mkLoad o (some (false, 1)) h[b]? := aload_eq Tryd.tyc116
theorem Tryd.loadF116 {h : AH} {c : Array Value} {n : Nat} : aload Tryd.prog h 116 (fp c n) = mkLoadF c n (some (false, 1)) := aload_fp Tryd.tyc116
theorem Tryd.store116 {h : AH} {b o : Nat} {v : Value} : astore Tryd.prog h 116 (.pointer (some ⟨b, o, none⟩)) v = mkStore h b o v (some (false, 1)) h[b]? := astore_eq' Tryd.tyc116
theorem Tryd.some116 : (tyc Tryd.prog 116).isSome = true := by rw [Tryd.tyc116]; rfl
theorem Tryd.tyc117 : tyc Tryd.prog 117 = some (true, 11) := by kernel_rfl
theorem Tryd.load117 {h : AH} {b o : Nat} : aload Tryd.prog h 117 (.pointer (some ⟨b, o, none⟩)) = mkLoad o (some (true, 11)) h[b]? := aload_eq Tryd.tyc117
theorem Tryd.loadF117 {h : AH} {c : Array Value} {n : Nat} : aload Tryd.prog h 117 (fp c n) = mkLoadF c n (some (true, 11)) := aload_fp Tryd.tyc117
theorem Tryd.store117 {h : AH} {b o : Nat} {v : Value} : astore Tryd.prog h 117 (.pointer (some ⟨b, o, none⟩)) v = mkStore h b o v (some (true, 11)) h[b]? := astore_eq' Tryd.tyc117
theorem Tryd.some117 : (tyc Tryd.prog 117).isSome = true := by rw [Tryd.tyc117]; rfl
theorem Tryd.tyc118 : tyc Tryd.prog 118 = some (true, 11) := by kernel_rfl
theorem Tryd.load118 {h : AH} {b o : Nat} : aload Tryd.prog h 118 (.pointer (some ⟨b, o, none⟩)) = mkLoad o (some (true, 11)) h[b]? := aload_eq Tryd.tyc118
theorem Tryd.loadF118 {h : AH} {c : Array Value} {n : Nat} : aload Tryd.prog h 118 (fp c n) = mkLoadF c n (some (true, 11)) := aload_fp Tryd.tyc118
theorem Tryd.store118 {h : AH} {b o : Nat} {v : Value} : astore Tryd.prog h 118 (.pointer (some ⟨b, o, none⟩)) v = mkStore h b o v (some (true, 11)) h[b]? := astore_eq' Tryd.tyc118
theorem Tryd.some118 : (tyc Tryd.prog 118).isSome = true := by rw [Tryd.tyc118]; rfl
theorem Tryd.fld7_0 : fld Tryd.prog 7 0 = some (0, false, 1) := by kernel_rfl
theorem Tryd.fieldAddr7_0 {b o : Nat} : afieldAddr Tryd.prog 7 (.pointer (some ⟨b, o, none⟩)) 0 = mkFieldAddr b o (some (0, false, 1)) := afieldAddr_eq' Tryd.fld7_0
theorem Tryd.fieldAddrF7_0 {c : Array Value} {n : Nat} : afieldAddr Tryd.prog 7 (fp c n) 0 = mkFieldAddrF c n (some (0, false, 1)) := afieldAddr_fp Tryd.fld7_0
theorem Tryd.field7_0 {c : Array Value} : afield Tryd.prog 7 (.agg c) 0 = mkField c (some (0, false, 1)) := afield_eq' Tryd.fld7_0
theorem Tryd.fld7_1 : fld Tryd.prog 7 1 = some (1, false, 1) := by kernel_rfl
theorem Tryd.fieldAddr7_1 {b o : Nat} : afieldAddr Tryd.prog 7 (.pointer (some ⟨b, o, none⟩)) 1 = mkFieldAddr b o (some (1, false, 1)) := afieldAddr_eq' Tryd.fld7_1
theorem Tryd.fieldAddrF7_1 {c : Array Value} {n : Nat} : afieldAddr Tryd.prog 7 (fp c n) 1 = mkFieldAddrF c n (some (1, false, 1)) := afieldAddr_fp Tryd.fld7_1
theorem Tryd.field7_1 {c : Array Value} : afield Tryd.prog 7 (.agg c) 1 = mkField c (some (1, false, 1)) := afield_eq' Tryd.fld7_1
theorem Tryd.fld7_2 : fld Tryd.prog 7 2 = some (2, false, 1) := by kernel_rfl
theorem Tryd.fieldAddr7_2 {b o : Nat} : afieldAddr Tryd.prog 7 (.pointer (some ⟨b, o, none⟩)) 2 = mkFieldAddr b o (some (2, false, 1)) := afieldAddr_eq' Tryd.fld7_2
theorem Tryd.fieldAddrF7_2 {c : Array Value} {n : Nat} : afieldAddr Tryd.prog 7 (fp c n) 2 = mkFieldAddrF c n (some (2, false, 1)) := afieldAddr_fp Tryd.fld7_2
theorem Tryd.field7_2 {c : Array Value} : afield Tryd.prog 7 (.agg c) 2 = mkField c (some (2, false, 1)) := afield_eq' Tryd.fld7_2
theorem Tryd.fld7_3 : fld Tryd.prog 7 3 = some (3, false, 1) := by kernel_rfl
theorem Tryd.fieldAddr7_3 {b o : Nat} : afieldAddr Tryd.prog 7 (.pointer (some ⟨b, o, none⟩)) 3 = mkFieldAddr b o (some (3, false, 1)) := afieldAddr_eq' Tryd.fld7_3
theorem Tryd.fieldAddrF7_3 {c : Array Value} {n : Nat} : afieldAddr Tryd.prog 7 (fp c n) 3 = mkFieldAddrF c n (some (3, false, 1)) := afieldAddr_fp Tryd.fld7_3
theorem Tryd.field7_3 {c : Array Value} : afield Tryd.prog 7 (.agg c) 3 = mkField c (some (3, false, 1)) := afield_eq' Tryd.fld7_3
theorem Tryd.fld8_0 : fld Tryd.prog 8 0 = some (0, false, 1) := by kernel_rfl
theorem Tryd.fieldAddr8_0 {b o : Nat} : afieldAddr Tryd.prog 8 (.pointer (some ⟨b, o, none⟩)) 0 = mkFieldAddr b o (some (0, false, 1)) := afieldAddr_eq' Tryd.fld8_0
theorem Tryd.fieldAddrF8_0 {c : Array Value} {n : Nat} : afieldAddr Tryd.prog 8 (fp c n) 0 = mkFieldAddrF c n (some (0, false, 1)) := afieldAddr_fp Tryd.fld8_0
theorem Tryd.field8_0 {c : Array Value} : afield Tryd.prog 8 (.agg c) 0 = mkField c (some (0, false, 1)) := afield_eq' Tryd.fld8_0
theorem Tryd.fld8_1 : fld Tryd.prog 8 1 = some (1, false, 1) := by kernel_rfl
theorem Tryd.fieldAddr8_1 {b o : Nat} : afieldAddr Tryd.prog 8 (.pointer (some ⟨b, o, none⟩)) 1 = mkFieldAddr b o (some (1, false, 1)) := afieldAddr_eq' Tryd.fld8_1
theorem Tryd.fieldAddrF8_1 {c : Array Value} {n : Nat} : afieldAddr Tryd.prog 8 (fp c n) 1 = mkFieldAddrF c n (some (1, false, 1)) := afieldAddr_fp Tryd.fld8_1
theorem Tryd.field8_1 {c : Array Value} : afield Tryd.prog 8 (.agg c) 1 = mkField c (some (1, false, 1)) := afield_eq' Tryd.fld8_1
theorem Tryd.fld8_2 : fld Tryd.prog 8 2 = some (2, false, 1) := by kernel_rfl
theorem Tryd.fieldAddr8_2 {b o : Nat} : afieldAddr Tryd.prog 8 (.pointer (some ⟨b, o, none⟩)) 2 = mkFieldAddr b o (some (2, false, 1)) := afieldAddr_eq' Tryd.fld8_2
theorem Tryd.fieldAddrF8_2 {c : Array Value} {n : Nat} : afieldAddr Tryd.prog 8 (fp c n) 2 = mkFieldAddrF c n (some (2, false, 1)) := afieldAddr_fp Tryd.fld8_2
theorem Tryd.field8_2 {c : Array Value} : afield Tryd.prog 8 (.agg c) 2 = mkField c (some (2, false, 1)) := afield_eq' Tryd.fld8_2
theorem Tryd.fld8_3 : fld Tryd.prog 8 3 = some (3, false, 1) := by kernel_rfl
theorem Tryd.fieldAddr8_3 {b o : Nat} : afieldAddr Tryd.prog 8 (.pointer (some ⟨b, o, none⟩)) 3 = mkFieldAddr b o (some (3, false, 1)) := afieldAddr_eq' Tryd.fld8_3
theorem Tryd.fieldAddrF8_3 {c : Array Value} {n : Nat} : afieldAddr Tryd.prog 8 (fp c n) 3 = mkFieldAddrF c n (some (3, false, 1)) := afieldAddr_fp Tryd.fld8_3
theorem Tryd.field8_3 {c : Array Value} : afield Tryd.prog 8 (.agg c) 3 = mkField c (some (3, false, 1)) := afield_eq' Tryd.fld8_3
theorem Tryd.fld13_0 : fld Tryd.prog 13 0 = some (0, false, 1) := by kernel_rfl
theorem Tryd.fieldAddr13_0 {b o : Nat} : afieldAddr Tryd.prog 13 (.pointer (some ⟨b, o, none⟩)) 0 = mkFieldAddr b o (some (0, false, 1)) := afieldAddr_eq' Tryd.fld13_0
theorem Tryd.fieldAddrF13_0 {c : Array Value} {n : Nat} : afieldAddr Tryd.prog 13 (fp c n) 0 = mkFieldAddrF c n (some (0, false, 1)) := afieldAddr_fp Tryd.fld13_0
theorem Tryd.field13_0 {c : Array Value} : afield Tryd.prog 13 (.agg c) 0 = mkField c (some (0, false, 1)) := afield_eq' Tryd.fld13_0
theorem Tryd.fld13_1 : fld Tryd.prog 13 1 = some (1, false, 1) := by kernel_rfl
theorem Tryd.fieldAddr13_1 {b o : Nat} : afieldAddr Tryd.prog 13 (.pointer (some ⟨b, o, none⟩)) 1 = mkFieldAddr b o (some (1, false, 1)) := afieldAddr_eq' Tryd.fld13_1
theorem Tryd.fieldAddrF13_1 {c : Array Value} {n : Nat} : afieldAddr Tryd.prog 13 (fp c n) 1 = mkFieldAddrF c n (some (1, false, 1)) := afieldAddr_fp Tryd.fld13_1
theorem Tryd.field13_1 {c : Array Value} : afield Tryd.prog 13 (.agg c) 1 = mkField c (some (1, false, 1)) := afield_eq' Tryd.fld13_1
theorem Tryd.fld14_0 : fld Tryd.prog 14 0 = some (0, false, 1) := by kernel_rfl
theorem Tryd.fieldAddr14_0 {b o : Nat} : afieldAddr Tryd.prog 14 (.pointer (some ⟨b, o, none⟩)) 0 = mkFieldAddr b o (some (0, false, 1)) := afieldAddr_eq' Tryd.fld14_0
theorem Tryd.fieldAddrF14_0 {c : Array Value} {n : Nat} : afieldAddr Tryd.prog 14 (fp c n) 0 = mkFieldAddrF c n (some (0, false, 1)) := afieldAddr_fp Tryd.fld14_0
theorem Tryd.field14_0 {c : Array Value} : afield Tryd.prog 14 (.agg c) 0 = mkField c (some (0, false, 1)) := afield_eq' Tryd.fld14_0
theorem Tryd.fld14_1 : fld Tryd.prog 14 1 = some (1, false, 1) := by kernel_rfl
theorem Tryd.fieldAddr14_1 {b o : Nat} : afieldAddr Tryd.prog 14 (.pointer (some ⟨b, o, none⟩)) 1 = mkFieldAddr b o (some (1, false, 1)) := afieldAddr_eq' Tryd.fld14_1
theorem Tryd.fieldAddrF14_1 {c : Array Value} {n : Nat} : afieldAddr Tryd.prog 14 (fp c n) 1 = mkFieldAddrF c n (some (1, false, 1)) := afieldAddr_fp Tryd.fld14_1
theorem Tryd.field14_1 {c : Array Value} : afield Tryd.prog 14 (.agg c) 1 = mkField c (some (1, false, 1)) := afield_eq' Tryd.fld14_1
theorem Tryd.fld18_0 : fld Tryd.prog 18 0 = some (0, false, 1) := by kernel_rfl
theorem Tryd.fieldAddr18_0 {b o : Nat} : afieldAddr Tryd.prog 18 (.pointer (some ⟨b, o, none⟩)) 0 = mkFieldAddr b o (some (0, false, 1)) := afieldAddr_eq' Tryd.fld18_0
theorem Tryd.fieldAddrF18_0 {c : Array Value} {n : Nat} : afieldAddr Tryd.prog 18 (fp c n) 0 = mkFieldAddrF c n (some (0, false, 1)) := afieldAddr_fp Tryd.fld18_0
theorem Tryd.field18_0 {c : Array Value} : afield Tryd.prog 18 (.agg c) 0 = mkField c (some (0, false, 1)) := afield_eq' Tryd.fld18_0
theorem Tryd.fld19_0 : fld Tryd.prog 19 0 = some (0, false, 1) := by kernel_rfl
theorem Tryd.fieldAddr19_0 {b o : Nat} : afieldAddr Tryd.prog 19 (.pointer (some ⟨b, o, none⟩)) 0 = mkFieldAddr b o (some (0, false, 1)) := afieldAddr_eq' Tryd.fld19_0
theorem Tryd.fieldAddrF19_0 {c : Array Value} {n : Nat} : afieldAddr Tryd.prog 19 (fp c n) 0 = mkFieldAddrF c n (some (0, false, 1)) := afieldAddr_fp Tryd.fld19_0
theorem Tryd.field19_0 {c : Array Value} : afield Tryd.prog 19 (.agg c) 0 = mkField c (some (0, false, 1)) := afield_eq' Tryd.fld19_0
theorem Tryd.fld50_0 : fld Tryd.prog 50 0 = some (0, false, 1) := by kernel_rfl
theorem Tryd.fieldAddr50_0 {b o : Nat} : afieldAddr Tryd.prog 50 (.pointer (some ⟨b, o, none⟩)) 0 = mkFieldAddr b o (some (0, false, 1)) := afieldAddr_eq' Tryd.fld50_0
theorem Tryd.fieldAddrF50_0 {c : Array Value} {n : Nat} : afieldAddr Tryd.prog 50 (fp c n) 0 = mkFieldAddrF c n (some (0, false, 1)) := afieldAddr_fp Tryd.fld50_0
theorem Tryd.field50_0 {c : Array Value} : afield Tryd.prog 50 (.agg c) 0 = mkField c (some (0, false, 1)) := afield_eq' Tryd.fld50_0
theorem Tryd.fld50_1 : fld Tryd.prog 50 1 = some (1, false, 1) := by kernel_rfl
theorem Tryd.fieldAddr50_1 {b o : Nat} : afieldAddr Tryd.prog 50 (.pointer (some ⟨b, o, none⟩)) 1 = mkFieldAddr b o (some (1, false, 1)) := afieldAddr_eq' Tryd.fld50_1
theorem Tryd.fieldAddrF50_1 {c : Array Value} {n : Nat} : afieldAddr Tryd.prog 50 (fp c n) 1 = mkFieldAddrF c n (some (1, false, 1)) := afieldAddr_fp Tryd.fld50_1
theorem Tryd.field50_1 {c : Array Value} : afield Tryd.prog 50 (.agg c) 1 = mkField c (some (1, false, 1)) := afield_eq' Tryd.fld50_1
theorem Tryd.fld51_0 : fld Tryd.prog 51 0 = some (0, false, 1) := by kernel_rfl
theorem Tryd.fieldAddr51_0 {b o : Nat} : afieldAddr Tryd.prog 51 (.pointer (some ⟨b, o, none⟩)) 0 = mkFieldAddr b o (some (0, false, 1)) := afieldAddr_eq' Tryd.fld51_0
theorem Tryd.fieldAddrF51_0 {c : Array Value} {n : Nat} : afieldAddr Tryd.prog 51 (fp c n) 0 = mkFieldAddrF c n (some (0, false, 1)) := afieldAddr_fp Tryd.fld51_0
theorem Tryd.field51_0 {c : Array Value} : afield Tryd.prog 51 (.agg c) 0 = mkField c (some (0, false, 1)) := afield_eq' Tryd.fld51_0
theorem Tryd.fld51_1 : fld Tryd.prog 51 1 = some (1, false, 1) := by kernel_rfl
theorem Tryd.fieldAddr51_1 {b o : Nat} : afieldAddr Tryd.prog 51 (.pointer (some ⟨b, o, none⟩)) 1 = mkFieldAddr b o (some (1, false, 1)) := afieldAddr_eq' Tryd.fld51_1
theorem Tryd.fieldAddrF51_1 {c : Array Value} {n : Nat} : afieldAddr Tryd.prog 51 (fp c n) 1 = mkFieldAddrF c n (some (1, false, 1)) := afieldAddr_fp Tryd.fld51_1
theorem Tryd.field51_1 {c : Array Value} : afield Tryd.prog 51 (.agg c) 1 = mkField c (some (1, false, 1)) := afield_eq' Tryd.fld51_1
theorem Tryd.fld98_0 : fld Tryd.prog 98 0 = some (0, false, 1) := by kernel_rfl
theorem Tryd.fieldAddr98_0 {b o : Nat} : afieldAddr Tryd.prog 98 (.pointer (some ⟨b, o, none⟩)) 0 = mkFieldAddr b o (some (0, false, 1)) := afieldAddr_eq' Tryd.fld98_0
theorem Tryd.fieldAddrF98_0 {c : Array Value} {n : Nat} : afieldAddr Tryd.prog 98 (fp c n) 0 = mkFieldAddrF c n (some (0, false, 1)) := afieldAddr_fp Tryd.fld98_0
theorem Tryd.field98_0 {c : Array Value} : afield Tryd.prog 98 (.agg c) 0 = mkField c (some (0, false, 1)) := afield_eq' Tryd.fld98_0
theorem Tryd.fld98_1 : fld Tryd.prog 98 1 = some (1, false, 1) := by kernel_rfl
theorem Tryd.fieldAddr98_1 {b o : Nat} : afieldAddr Tryd.prog 98 (.pointer (some ⟨b, o, none⟩)) 1 = mkFieldAddr b o (some (1, false, 1)) := afieldAddr_eq' Tryd.fld98_1
theorem Tryd.fieldAddrF98_1 {c : Array Value} {n : Nat} : afieldAddr Tryd.prog 98 (fp c n) 1 = mkFieldAddrF c n (some (1, false, 1)) := afieldAddr_fp Tryd.fld98_1
theorem Tryd.field98_1 {c : Array Value} : afield Tryd.prog 98 (.agg c) 1 = mkField c (some (1, false, 1)) := afield_eq' Tryd.fld98_1
theorem Tryd.fld99_0 : fld Tryd.prog 99 0 = some (0, false, 1) := by kernel_rfl
theorem Tryd.fieldAddr99_0 {b o : Nat} : afieldAddr Tryd.prog 99 (.pointer (some ⟨b, o, none⟩)) 0 = mkFieldAddr b o (some (0, false, 1)) := afieldAddr_eq' Tryd.fld99_0
theorem Tryd.fieldAddrF99_0 {c : Array Value} {n : Nat} : afieldAddr Tryd.prog 99 (fp c n) 0 = mkFieldAddrF c n (some (0, false, 1)) := afieldAddr_fp Tryd.fld99_0
theorem Tryd.field99_0 {c : Array Value} : afield Tryd.prog 99 (.agg c) 0 = mkField c (some (0, false, 1)) := afield_eq' Tryd.fld99_0
theorem Tryd.fld99_1 : fld Tryd.prog 99 1 = some (1, false, 1) := by kernel_rfl
theorem Tryd.fieldAddr99_1 {b o : Nat} : afieldAddr Tryd.prog 99 (.pointer (some ⟨b, o, none⟩)) 1 = mkFieldAddr b o (some (1, false, 1)) := afieldAddr_eq' Tryd.fld99_1
theorem Tryd.fieldAddrF99_1 {c : Array Value} {n : Nat} : afieldAddr Tryd.prog 99 (fp c n) 1 = mkFieldAddrF c n (some (1, false, 1)) := afieldAddr_fp Tryd.fld99_1
theorem Tryd.field99_1 {c : Array Value} : afield Tryd.prog 99 (.agg c) 1 = mkField c (some (1, false, 1)) := afield_eq' Tryd.fld99_1
theorem Tryd.fld105_0 : fld Tryd.prog 105 0 = some (0, false, 1) := by kernel_rfl
theorem Tryd.fieldAddr105_0 {b o : Nat} : afieldAddr Tryd.prog 105 (.pointer (some ⟨b, o, none⟩)) 0 = mkFieldAddr b o (some (0, false, 1)) := afieldAddr_eq' Tryd.fld105_0
theorem Tryd.fieldAddrF105_0 {c : Array Value} {n : Nat} : afieldAddr Tryd.prog 105 (fp c n) 0 = mkFieldAddrF c n (some (0, false, 1)) := afieldAddr_fp Tryd.fld105_0
theorem Tryd.field105_0 {c : Array Value} : afield Tryd.prog 105 (.agg c) 0 = mkField c (some (0, false, 1)) := afield_eq' Tryd.fld105_0
theorem Tryd.fld105_1 : fld Tryd.prog 105 1 = some (1, false, 1) := by kernel_rfl
theorem Tryd.fieldAddr105_1 {b o : Nat} : afieldAddr Tryd.prog 105 (.pointer (some ⟨b, o, none⟩)) 1 = mkFieldAddr b o (some (1, false, 1)) := afieldAddr_eq' Tryd.fld105_1
theorem Tryd.fieldAddrF105_1 {c : Array Value} {n : Nat} : afieldAddr Tryd.prog 105 (fp c n) 1 = mkFieldAddrF c n (some (1, false, 1)) := afieldAddr_fp Tryd.fld105_1
theorem Tryd.field105_1 {c : Array Value} : afield Tryd.prog 105 (.agg c) 1 = mkField c (some (1, false, 1)) := afield_eq' Tryd.fld105_1
theorem Tryd.fld105_2 : fld Tryd.prog 105 2 = some (2, false, 1) := by kernel_rfl
theorem Tryd.fieldAddr105_2 {b o : Nat} : afieldAddr Tryd.prog 105 (.pointer (some ⟨b, o, none⟩)) 2 = mkFieldAddr b o (some (2, false, 1)) := afieldAddr_eq' Tryd.fld105_2
theorem Tryd.fieldAddrF105_2 {c : Array Value} {n : Nat} : afieldAddr Tryd.prog 105 (fp c n) 2 = mkFieldAddrF c n (some (2, false, 1)) := afieldAddr_fp Tryd.fld105_2
theorem Tryd.field105_2 {c : Array Value} : afield Tryd.prog 105 (.agg c) 2 = mkField c (some (2, false, 1)) := afield_eq' Tryd.fld105_2
theorem Tryd.fld105_3 : fld Tryd.prog 105 3 = some (3, false, 1) := by kernel_rfl
theorem Tryd.fieldAddr105_3 {b o : Nat} : afieldAddr Tryd.prog 105 (.pointer (some ⟨b, o, none⟩)) 3 = mkFieldAddr b o (some (3, false, 1)) := afieldAddr_eq' Tryd.fld105_3
theorem Tryd.fieldAddrF105_3 {c : Array Value} {n : Nat} : afieldAddr Tryd.prog 105 (fp c n) 3 = mkFieldAddrF c n (some (3, false, 1)) := afieldAddr_fp Tryd.fld105_3
theorem Tryd.field105_3 {c : Array Value} : afield Tryd.prog 105 (.agg c) 3 = mkField c (some (3, false, 1)) := afield_eq' Tryd.fld105_3
theorem Tryd.fld106_0 : fld Tryd.prog 106 0 = some (0, false, 1) := by kernel_rfl
theorem Tryd.fieldAddr106_0 {b o : Nat} : afieldAddr Tryd.prog 106 (.pointer (some ⟨b, o, none⟩)) 0 = mkFieldAddr b o (some (0, false, 1)) := afieldAddr_eq' Tryd.fld106_0
theorem Tryd.fieldAddrF106_0 {c : Array Value} {n : Nat} : afieldAddr Tryd.prog 106 (fp c n) 0 = mkFieldAddrF c n (some (0, false, 1)) := afieldAddr_fp Tryd.fld106_0
theorem Tryd.field106_0 {c : Array Value} : afield Tryd.prog 106 (.agg c) 0 = mkField c (some (0, false, 1)) := afield_eq' Tryd.fld106_0
theorem Tryd.fld106_1 : fld Tryd.prog 106 1 = some (1, false, 1) := by kernel_rfl
theorem Tryd.fieldAddr106_1 {b o : Nat} : afieldAddr Tryd.prog 106 (.pointer (some ⟨b, o, none⟩)) 1 = mkFieldAddr b o (some (1, false, 1)) := afieldAddr_eq' Tryd.fld106_1
theorem Tryd.fieldAddrF106_1 {c : Array Value} {n : Nat} : afieldAddr Tryd.prog 106 (fp c n) 1 = mkFieldAddrF c n (some (1, false, 1)) := afieldAddr_fp Tryd.fld106_1
theorem Tryd.field106_1 {c : Array Value} : afield Tryd.prog 106 (.agg c) 1 = mkField c (some (1, false, 1)) := afield_eq' Tryd.fld106_1
theorem Tryd.fld106_2 : fld Tryd.prog 106 2 = some (2, false, 1) := by kernel_rfl
theorem Tryd.fieldAddr106_2 {b o : Nat} : afieldAddr Tryd.prog 106 (.pointer (some ⟨b, o, none⟩)) 2 = mkFieldAddr b o (some (2, false, 1)) := afieldAddr_eq' Tryd.fld106_2
theorem Tryd.fieldAddrF106_2 {c : Array Value} {n : Nat} : afieldAddr Tryd.prog 106 (fp c n) 2 = mkFieldAddrF c n (some (2, false, 1)) := afieldAddr_fp Tryd.fld106_2
theorem Tryd.field106_2 {c : Array Value} : afield Tryd.prog 106 (.agg c) 2 = mkField c (some (2, false, 1)) := afield_eq' Tryd.fld106_2
theorem Tryd.fld106_3 : fld Tryd.prog 106 3 = some (3, false, 1) := by kernel_rfl
theorem Tryd.fieldAddr106_3 {b o : Nat} : afieldAddr Tryd.prog 106 (.pointer (some ⟨b, o, none⟩)) 3 = mkFieldAddr b o (some (3, false, 1)) := afieldAddr_eq' Tryd.fld106_3
theorem Tryd.fieldAddrF106_3 {c : Array Value} {n : Nat} : afieldAddr Tryd.prog 106 (fp c n) 3 = mkFieldAddrF c n (some (3, false, 1)) := afieldAddr_fp Tryd.fld106_3
theorem Tryd.field106_3 {c : Array Value} : afield Tryd.prog 106 (.agg c) 3 = mkField c (some (3, false, 1)) := afield_eq' Tryd.fld106_3
theorem Tryd.fld108_0 : fld Tryd.prog 108 0 = some (0, true, 0) := by kernel_rfl
theorem Tryd.fieldAddr108_0 {b o : Nat} : afieldAddr Tryd.prog 108 (.pointer (some ⟨b, o, none⟩)) 0 = mkFieldAddr b o (some (0, true, 0)) := afieldAddr_eq' Tryd.fld108_0
theorem Tryd.fieldAddrF108_0 {c : Array Value} {n : Nat} : afieldAddr Tryd.prog 108 (fp c n) 0 = mkFieldAddrF c n (some (0, true, 0)) := afieldAddr_fp Tryd.fld108_0
theorem Tryd.field108_0 {c : Array Value} : afield Tryd.prog 108 (.agg c) 0 = mkField c (some (0, true, 0)) := afield_eq' Tryd.fld108_0
theorem Tryd.fld109_0 : fld Tryd.prog 109 0 = some (0, true, 0) := by kernel_rfl
theorem Tryd.fieldAddr109_0 {b o : Nat} : afieldAddr Tryd.prog 109 (.pointer (some ⟨b, o, none⟩)) 0 = mkFieldAddr b o (some (0, true, 0)) := afieldAddr_eq' Tryd.fld109_0
theorem Tryd.fieldAddrF109_0 {c : Array Value} {n : Nat} : afieldAddr Tryd.prog 109 (fp c n) 0 = mkFieldAddrF c n (some (0, true, 0)) := afieldAddr_fp Tryd.fld109_0
theorem Tryd.field109_0 {c : Array Value} : afield Tryd.prog 109 (.agg c) 0 = mkField c (some (0, true, 0)) := afield_eq' Tryd.fld109_0
theorem Tryd.fld117_0 : fld Tryd.prog 117 0 = some (0, false, 1) := by kernel_rfl
theorem Tryd.fieldAddr117_0 {b o : Nat} : afieldAddr Tryd.prog 117 (.pointer (some ⟨b, o, none⟩)) 0 = mkFieldAddr b o (some (0, false, 1)) := afieldAddr_eq' Tryd.fld117_0
theorem Tryd.fieldAddrF117_0 {c : Array Value} {n : Nat} : afieldAddr Tryd.prog 117 (fp c n) 0 = mkFieldAddrF c n (some (0, false, 1)) := afieldAddr_fp Tryd.fld117_0
theorem Tryd.field117_0 {c : Array Value} : afield Tryd.prog 117 (.agg c) 0 = mkField c (some (0, false, 1)) := afield_eq' Tryd.fld117_0
theorem Tryd.fld117_1 : fld Tryd.prog 117 1 = some (1, false, 1) := by kernel_rfl
theorem Tryd.fieldAddr117_1 {b o : Nat} : afieldAddr Tryd.prog 117 (.pointer (some ⟨b, o, none⟩)) 1 = mkFieldAddr b o (some (1, false, 1)) := afieldAddr_eq' Tryd.fld117_1
theorem Tryd.fieldAddrF117_1 {c : Array Value} {n : Nat} : afieldAddr Tryd.prog 117 (fp c n) 1 = mkFieldAddrF c n (some (1, false, 1)) := afieldAddr_fp Tryd.fld117_1
theorem Tryd.field117_1 {c : Array Value} : afield Tryd.prog 117 (.agg c) 1 = mkField c (some (1, false, 1)) := afield_eq' Tryd.fld117_1
theorem Tryd.fld117_2 : fld Tryd.prog 117 2 = some (2, false, 1) := by kernel_rfl
theorem Tryd.fieldAddr117_2 {b o : Nat} : afieldAddr Tryd.prog 117 (.pointer (some ⟨b, o, none⟩)) 2 = mkFieldAddr b o (some (2, false, 1)) := afieldAddr_eq' Tryd.fld117_2
theorem Tryd.fieldAddrF117_2 {c : Array Value} {n : Nat} : afieldAddr Tryd.prog 117 (fp c n) 2 = mkFieldAddrF c n (some (2, false, 1)) := afieldAddr_fp Tryd.fld117_2
theorem Tryd.field117_2 {c : Array Value} : afield Tryd.prog 117 (.agg c) 2 = mkField c (some (2, false, 1)) := afield_eq' Tryd.fld117_2
theorem Tryd.fld117_3 : fld Tryd.prog 117 3 = some (3, false, 1) := by kernel_rfl
theorem Tryd.fieldAddr117_3 {b o : Nat} : afieldAddr Tryd.prog 117 (.pointer (some ⟨b, o, none⟩)) 3 = mkFieldAddr b o (some (3, false, 1)) := afieldAddr_eq' Tryd.fld117_3
theorem Tryd.fieldAddrF117_3 {c : Array Value} {n : Nat} : afieldAddr Tryd.prog 117 (fp c n) 3 = mkFieldAddrF c n (some (3, false, 1)) := afieldAddr_fp Tryd.fld117_3
theorem Tryd.field117_3 {c : Array Value} : afield Tryd.prog 117 (.agg c) 3 = mkField c (some (3, false, 1)) := afield_eq' Tryd.fld117_3
theorem Tryd.fld117_4 : fld Tryd.prog 117 4 = some (4, false, 1) := by kernel_rfl
theorem Tryd.fieldAddr117_4 {b o : Nat} : afieldAddr Tryd.prog 117 (.pointer (some ⟨b, o, none⟩)) 4 = mkFieldAddr b o (some (4, false, 1)) := afieldAddr_eq' Tryd.fld117_4
theorem Tryd.fieldAddrF117_4 {c : Array Value} {n : Nat} : afieldAddr Tryd.prog 117 (fp c n) 4 = mkFieldAddrF c n (some (4, false, 1)) := afieldAddr_fp Tryd.fld117_4
theorem Tryd.field117_4 {c : Array Value} : afield Tryd.prog 117 (.agg c) 4 = mkField c (some (4, false, 1)) := afield_eq' Tryd.fld117_4
theorem Tryd.fld117_5 : fld Tryd.prog 117 5 = some (5, false, 1) := by kernel_rfl
theorem Tryd.fieldAddr117_5 {b o : Nat} : afieldAddr Tryd.prog 117 (.pointer (some ⟨b, o, none⟩)) 5 = mkFieldAddr b o (some (5, false, 1)) := afieldAddr_eq' Tryd.fld117_5
theorem Tryd.fieldAddrF117_5 {c : Array Value} {n : Nat} : afieldAddr Tryd.prog 117 (fp c n) 5 = mkFieldAddrF c n (some (5, false, 1)) := afieldAddr_fp Tryd.fld117_5
theorem Tryd.field117_5 {c : Array Value} : afield Tryd.prog 117 (.agg c) 5 = mkField c (some (5, false, 1)) := afield_eq' Tryd.fld117_5
theorem Tryd.fld117_6 : fld Tryd.prog 117 6 = some (6, false, 1) := by kernel_rfl
theorem Tryd.fieldAddr117_6 {b o : Nat} : afieldAddr Tryd.prog 117 (.pointer (some ⟨b, o, none⟩)) 6 = mkFieldAddr b o (some (6, false, 1)) := afieldAddr_eq' Tryd.fld117_6
theorem Tryd.fieldAddrF117_6 {c : Array Value} {n : Nat} : afieldAddr Tryd.prog 117 (fp c n) 6 = mkFieldAddrF c n (some (6, false, 1)) := afieldAddr_fp Tryd.fld117_6
theorem Tryd.field117_6 {c : Array Value} : afield Tryd.prog 117 (.agg c) 6 = mkField c (some (6, false, 1)) := afield_eq' Tryd.fld117_6
theorem Tryd.fld117_7 : fld Tryd.prog 117 7 = some (7, false, 1) := by kernel_rfl
theorem Tryd.fieldAddr117_7 {b o : Nat} : afieldAddr Tryd.prog 117 (.pointer (some ⟨b, o, none⟩)) 7 = mkFieldAddr b o (some (7, false, 1)) := afieldAddr_eq' Tryd.fld117_7
theorem Tryd.fieldAddrF117_7 {c : Array Value} {n : Nat} : afieldAddr Tryd.prog 117 (fp c n) 7 = mkFieldAddrF c n (some (7, false, 1)) := afieldAddr_fp Tryd.fld117_7
theorem Tryd.field117_7 {c : Array Value} : afield Tryd.prog 117 (.agg c) 7 = mkField c (some (7, false, 1)) := afield_eq' Tryd.fld117_7
theorem Tryd.fld117_8 : fld Tryd.prog 117 8 = some (8, false, 1) := by kernel_rfl
theorem Tryd.fieldAddr117_8 {b o : Nat} : afieldAddr Tryd.prog 117 (.pointer (some ⟨b, o, none⟩)) 8 = mkFieldAddr b o (some (8, false, 1)) := afieldAddr_eq' Tryd.fld117_8
theorem Tryd.fieldAddrF117_8 {c : Array Value} {n : Nat} : afieldAddr Tryd.prog 117 (fp c n) 8 = mkFieldAddrF c n (some (8, false, 1)) := afieldAddr_fp Tryd.fld117_8
theorem Tryd.field117_8 {c : Array Value} : afield Tryd.prog 117 (.agg c) 8 = mkField c (some (8, false, 1)) := afield_eq' Tryd.fld117_8
theorem Tryd.fld117_9 : fld Tryd.prog 117 9 = some (9, false, 1) := by kernel_rfl
theorem Tryd.fieldAddr117_9 {b o : Nat} : afieldAddr Tryd.prog 117 (.pointer (some ⟨b, o, none⟩)) 9 = mkFieldAddr b o (some (9, false, 1)) := afieldAddr_eq' Tryd.fld117_9
theorem Tryd.fieldAddrF117_9 {c : Array Value} {n : Nat} : afieldAddr Tryd.prog 117 (fp c n) 9 = mkFieldAddrF c n (some (9, false, 1)) := afieldAddr_fp Tryd.fld117_9
theorem Tryd.field117_9 {c : Array Value} : afield Tryd.prog 117 (.agg c) 9 = mkField c (some (9, false, 1)) := afield_eq' Tryd.fld117_9
theorem Tryd.fld117_10 : fld Tryd.prog 117 10 = some (10, false, 1) := by kernel_rfl
theorem Tryd.fieldAddr117_10 {b o : Nat} : afieldAddr Tryd.prog 117 (.pointer (some ⟨b, o, none⟩)) 10 = mkFieldAddr b o (some (10, false, 1)) := afieldAddr_eq' Tryd.fld117_10
theorem Tryd.fieldAddrF117_10 {c : Array Value} {n : Nat} : afieldAddr Tryd.prog 117 (fp c n) 10 = mkFieldAddrF c n (some (10, false, 1)) := afieldAddr_fp Tryd.fld117_10
theorem Tryd.field117_10 {c : Array Value} : afield Tryd.prog 117 (.agg c) 10 = mkField c (some (10, false, 1)) := afield_eq' Tryd.fld117_10
theorem Tryd.fld118_0 : fld Tryd.prog 118 0 = some (0, false, 1) := by kernel_rfl
theorem Tryd.fieldAddr118_0 {b o : Nat} : afieldAddr Tryd.prog 118 (.pointer (some ⟨b, o, none⟩)) 0 = mkFieldAddr b o (some (0, false, 1)) := afieldAddr_eq' Tryd.fld118_0
theorem Tryd.fieldAddrF118_0 {c : Array Value} {n : Nat} : afieldAddr Tryd.prog 118 (fp c n) 0 = mkFieldAddrF c n (some (0, false, 1)) := afieldAddr_fp Tryd.fld118_0
theorem Tryd.field118_0 {c : Array Value} : afield Tryd.prog 118 (.agg c) 0 = mkField c (some (0, false, 1)) := afield_eq' Tryd.fld118_0
theorem Tryd.fld118_1 : fld Tryd.prog 118 1 = some (1, false, 1) := by kernel_rfl
theorem Tryd.fieldAddr118_1 {b o : Nat} : afieldAddr Tryd.prog 118 (.pointer (some ⟨b, o, none⟩)) 1 = mkFieldAddr b o (some (1, false, 1)) := afieldAddr_eq' Tryd.fld118_1
theorem Tryd.fieldAddrF118_1 {c : Array Value} {n : Nat} : afieldAddr Tryd.prog 118 (fp c n) 1 = mkFieldAddrF c n (some (1, false, 1)) := afieldAddr_fp Tryd.fld118_1
theorem Tryd.field118_1 {c : Array Value} : afield Tryd.prog 118 (.agg c) 1 = mkField c (some (1, false, 1)) := afield_eq' Tryd.fld118_1
theorem Tryd.fld118_2 : fld Tryd.prog 118 2 = some (2, false, 1) := by kernel_rfl
theorem Tryd.fieldAddr118_2 {b o : Nat} : afieldAddr Tryd.prog 118 (.pointer (some ⟨b, o, none⟩)) 2 = mkFieldAddr b o (some (2, false, 1)) := afieldAddr_eq' Tryd.fld118_2
theorem Tryd.fieldAddrF118_2 {c : Array Value} {n : Nat} : afieldAddr Tryd.prog 118 (fp c n) 2 = mkFieldAddrF c n (some (2, false, 1)) := afieldAddr_fp Tryd.fld118_2
theorem Tryd.field118_2 {c : Array Value} : afield Tryd.prog 118 (.agg c) 2 = mkField c (some (2, false, 1)) := afield_eq' Tryd.fld118_2
theorem Tryd.fld118_3 : fld Tryd.prog 118 3 = some (3, false, 1) := by kernel_rfl
theorem Tryd.fieldAddr118_3 {b o : Nat} : afieldAddr Tryd.prog 118 (.pointer (some ⟨b, o, none⟩)) 3 = mkFieldAddr b o (some (3, false, 1)) := afieldAddr_eq' Tryd.fld118_3
theorem Tryd.fieldAddrF118_3 {c : Array Value} {n : Nat} : afieldAddr Tryd.prog 118 (fp c n) 3 = mkFieldAddrF c n (some (3, false, 1)) := afieldAddr_fp Tryd.fld118_3
theorem Tryd.field118_3 {c : Array Value} : afield Tryd.prog 118 (.agg c) 3 = mkField c (some (3, false, 1)) := afield_eq' Tryd.fld118_3
theorem Tryd.fld118_4 : fld Tryd.prog 118 4 = some (4, false, 1) := by kernel_rfl
theorem Tryd.fieldAddr118_4 {b o : Nat} : afieldAddr Tryd.prog 118 (.pointer (some ⟨b, o, none⟩)) 4 = mkFieldAddr b o (some (4, false, 1)) := afieldAddr_eq' Tryd.fld118_4
theorem Tryd.fieldAddrF118_4 {c : Array Value} {n : Nat} : afieldAddr Tryd.prog 118 (fp c n) 4 = mkFieldAddrF c n (some (4, false, 1)) := afieldAddr_fp Tryd.fld118_4
theorem Tryd.field118_4 {c : Array Value} : afield Tryd.prog 118 (.agg c) 4 = mkField c (some (4, false, 1)) := afield_eq' Tryd.fld118_4
theorem Tryd.fld118_5 : fld Tryd.prog 118 5 = some (5, false, 1) := by kernel_rfl
theorem Tryd.fieldAddr118_5 {b o : Nat} : afieldAddr Tryd.prog 118 (.pointer (some ⟨b, o, none⟩)) 5 = mkFieldAddr b o (some (5, false, 1)) := afieldAddr_eq' Tryd.fld118_5
theorem Tryd.fieldAddrF118_5 {c : Array Value} {n : Nat} : afieldAddr Tryd.prog 118 (fp c n) 5 = mkFieldAddrF c n (some (5, false, 1)) := afieldAddr_fp Tryd.fld118_5
theorem Tryd.field118_5 {c : Array Value} : afield Tryd.prog 118 (.agg c) 5 = mkField c (some (5, false, 1)) := afield_eq' Tryd.fld118_5
theorem Tryd.fld118_6 : fld Tryd.prog 118 6 = some (6, false, 1) := by kernel_rfl
theorem Tryd.fieldAddr118_6 {b o : Nat} : afieldAddr Tryd.prog 118 (.pointer (some ⟨b, o, none⟩)) 6 = mkFieldAddr b o (some (6, false, 1)) := afieldAddr_eq' Tryd.fld118_6
theorem Tryd.fieldAddrF118_6 {c : Array Value} {n : Nat} : afieldAddr Tryd.prog 118 (fp c n) 6 = mkFieldAddrF c n (some (6, false, 1)) := afieldAddr_fp Tryd.fld118_6
theorem Tryd.field118_6 {c : Array Value} : afield Tryd.prog 118 (.agg c) 6 = mkField c (some (6, false, 1)) := afield_eq' Tryd.fld118_6
theorem Tryd.fld118_7 : fld Tryd.prog 118 7 = some (7, false, 1) := by kernel_rfl
theorem Tryd.fieldAddr118_7 {b o : Nat} : afieldAddr Tryd.prog 118 (.pointer (some ⟨b, o, none⟩)) 7 = mkFieldAddr b o (some (7, false, 1)) := afieldAddr_eq' Tryd.fld118_7
theorem Tryd.fieldAddrF118_7 {c : Array Value} {n : Nat} : afieldAddr Tryd.prog 118 (fp c n) 7 = mkFieldAddrF c n (some (7, false, 1)) := afieldAddr_fp Tryd.fld118_7
theorem Tryd.field118_7 {c : Array Value} : afield Tryd.prog 118 (.agg c) 7 = mkField c (some (7, false, 1)) := afield_eq' Tryd.fld118_7
theorem Tryd.fld118_8 : fld Tryd.prog 118 8 = some (8, false, 1) := by kernel_rfl
theorem Tryd.fieldAddr118_8 {b o : Nat} : afieldAddr Tryd.prog 118 (.pointer (some ⟨b, o, none⟩)) 8 = mkFieldAddr b o (some (8, false, 1)) := afieldAddr_eq' Tryd.fld118_8
theorem Tryd.fieldAddrF118_8 {c : Array Value} {n : Nat} : afieldAddr Tryd.prog 118 (fp c n) 8 = mkFieldAddrF c n (some (8, false, 1)) := afieldAddr_fp Tryd.fld118_8
theorem Tryd.field118_8 {c : Array Value} : afield Tryd.prog 118 (.agg c) 8 = mkField c (some (8, false, 1)) := afield_eq' Tryd.fld118_8
theorem Tryd.fld118_9 : fld Tryd.prog 118 9 = some (9, false, 1) := by kernel_rfl
theorem Tryd.fieldAddr118_9 {b o : Nat} : afieldAddr Tryd.prog 118 (.pointer (some ⟨b, o, none⟩)) 9 = mkFieldAddr b o (some (9, false, 1)) := afieldAddr_eq' Tryd.fld118_9
theorem Tryd.fieldAddrF118_9 {c : Array Value} {n : Nat} : afieldAddr Tryd.prog 118 (fp c n) 9 = mkFieldAddrF c n (some (9, false, 1)) := afieldAddr_fp Tryd.fld118_9
theorem Tryd.field118_9 {c : Array Value} : afield Tryd.prog 118 (.agg c) 9 = mkField c (some (9, false, 1)) := afield_eq' Tryd.fld118_9
theorem Tryd.fld118_10 : fld Tryd.prog 118 10 = some (10, false, 1) := by kernel_rfl
theorem Tryd.fieldAddr118_10 {b o : Nat} : afieldAddr Tryd.prog 118 (.pointer (some ⟨b, o, none⟩)) 10 = mkFieldAddr b o (some (10, false, 1)) := afieldAddr_eq' Tryd.fld118_10
theorem Tryd.fieldAddrF118_10 {c : Array Value} {n : Nat} : afieldAddr Tryd.prog 118 (fp c n) 10 = mkFieldAddrF c n (some (10, false, 1)) := afieldAddr_fp Tryd.fld118_10
theorem Tryd.field118_10 {c : Array Value} : afield Tryd.prog 118 (.agg c) 10 = mkField c (some (10, false, 1)) := afield_eq' Tryd.fld118_10
theorem Tryd.zero1 : zeroCellsOf Tryd.prog 1 = some (#[Value.nilFunc]) := by kernel_rfl
theorem Tryd.alloc1 {h : AH} : aalloc Tryd.prog h 1 = mkAlloc h (some (#[Value.nilFunc])) := aalloc_eq' Tryd.zero1
theorem Tryd.zero2 : zeroCellsOf Tryd.prog 2 = some (#[Value.int IntKind.i64 (0)]) := by kernel_rfl
theorem Tryd.alloc2 {h : AH} : aalloc Tryd.prog h 2 = mkAlloc h (some (#[Value.int IntKind.i64 (0)])) := aalloc_eq' Tryd.zero2
theorem Tryd.zero3 : zeroCellsOf Tryd.prog 3 = some (#[Value.int IntKind.i64 (0)]) := by kernel_rfl
theorem Tryd.alloc3 {h : AH} : aalloc Tryd.prog h 3 = mkAlloc h (some (#[Value.int IntKind.i64 (0)])) := aalloc_eq' Tryd.zero3
theorem Tryd.zero4 : zeroCellsOf Tryd.prog 4 = some (#[Value.bool false]) := by kernel_rfl
theorem Tryd.alloc4 {h : AH} : aalloc Tryd.prog h 4 = mkAlloc h (some (#[Value.bool false])) := aalloc_eq' Tryd.zero4
theorem Tryd.zero5 : zeroCellsOf Tryd.prog 5 = some (#[Value.int IntKind.u8 (0)]) := by kernel_rfl
theorem Tryd.alloc5 {h : AH} : aalloc Tryd.prog h 5 = mkAlloc h (some (#[Value.int IntKind.u8 (0)])) := aalloc_eq' Tryd.zero5
theorem Tryd.zero6 : zeroCellsOf Tryd.prog 6 = some (#[Value.int IntKind.u8 (0)]) := by kernel_rfl
theorem Tryd.alloc6 {h : AH} : aalloc Tryd.prog h 6 = mkAlloc h (some (#[Value.int IntKind.u8 (0)])) := aalloc_eq' Tryd.zero6
theorem Tryd.zero7 : zeroCellsOf Tryd.prog 7 = some (#[Value.int IntKind.i64 (0), Value.int IntKind.i64 (0), Value.bool false, Value.int IntKind.u8 (0)]) := by kernel_rfl
theorem Tryd.alloc7 {h : AH} : aalloc Tryd.prog h 7 = mkAlloc h (some (#[Value.int IntKind.i64 (0), Value.int IntKind.i64 (0), Value.bool false, Value.int IntKind.u8 (0)])) := aalloc_eq' Tryd.zero7
theorem Tryd.zero8 : zeroCellsOf Tryd.prog 8 = some (#[Value.int IntKind.i64 (0), Value.int IntKind.i64 (0), Value.bool false, Value.int IntKind.u8 (0)]) := by kernel_rfl
theorem Tryd.alloc8 {h : AH} : aalloc Tryd.prog h 8 = mkAlloc h (some (#[Value.int IntKind.i64 (0), Value.int IntKind.i64 (0), Value.bool false, Value.int IntKind.u8 (0)])) := aalloc_eq' Tryd.zero8
theorem Tryd.zero9 : zeroCellsOf Tryd.prog 9 = some (#[Value.string { data := { toList := [] } }]) := by kernel_rfl
theorem Tryd.alloc9 {h : AH} : aalloc Tryd.prog h 9 = mkAlloc h (some (#[Value.string { data := { toList := [] } }])) := aalloc_eq' Tryd.zero9
theorem Tryd.zero10 : zeroCellsOf Tryd.prog 10 = some (#[Value.string { data := { toList := [] } }]) := by kernel_rfl
theorem Tryd.alloc10 {h : AH} : aalloc Tryd.prog h 10 = mkAlloc h (some (#[Value.string { data := { toList := [] } }])) := aalloc_eq' Tryd.zero10
theorem Tryd.zero11 : zeroCellsOf Tryd.prog 11 = some (#[Value.string { data := { toList := [] } }]) := by kernel_rfl
theorem Tryd.alloc11 {h : AH} : aalloc Tryd.prog h 11 = mkAlloc h (some (#[Value.string { data := { toList := [] } }])) := aalloc_eq' Tryd.zero11
theorem Tryd.zero12 : zeroCellsOf Tryd.prog 12 = some (#[Value.int IntKind.u64 (0)]) := by kernel_rfl
theorem Tryd.alloc12 {h : AH} : aalloc Tryd.prog h 12 = mkAlloc h (some (#[Value.int IntKind.u64 (0)])) := aalloc_eq' Tryd.zero12
theorem Tryd.zero13 : zeroCellsOf Tryd.prog 13 = some (#[Value.string { data := { toList := [] } }, Value.int IntKind.u64 (0)]) := by kernel_rfl
theorem Tryd.alloc13 {h : AH} : aalloc Tryd.prog h 13 = mkAlloc h (some (#[Value.string { data := { toList := [] } }, Value.int IntKind.u64 (0)])) := aalloc_eq' Tryd.zero13
theorem Tryd.zero14 : zeroCellsOf Tryd.prog 14 = some (#[Value.string { data := { toList := [] } }, Value.int IntKind.u64 (0)]) := by kernel_rfl
theorem Tryd.alloc14 {h : AH} : aalloc Tryd.prog h 14 = mkAlloc h (some (#[Value.string { data := { toList := [] } }, Value.int IntKind.u64 (0)])) := aalloc_eq' Tryd.zero14
theorem Tryd.zero15 : zeroCellsOf Tryd.prog 15 = some (#[Value.pointer none]) := by kernel_rfl
theorem Tryd.alloc15 {h : AH} : aalloc Tryd.prog h 15 = mkAlloc h (some (#[Value.pointer none])) := aalloc_eq' Tryd.zero15
theorem Tryd.zero16 : zeroCellsOf Tryd.prog 16 = some (#[Value.pointer none]) := by kernel_rfl
theorem Tryd.alloc16 {h : AH} : aalloc Tryd.prog h 16 = mkAlloc h (some (#[Value.pointer none])) := aalloc_eq' Tryd.zero16
theorem Tryd.zero17 : zeroCellsOf Tryd.prog 17 = some (#[Value.pointer none]) := by kernel_rfl
theorem Tryd.alloc17 {h : AH} : aalloc Tryd.prog h 17 = mkAlloc h (some (#[Value.pointer none])) := aalloc_eq' Tryd.zero17
theorem Tryd.zero18 : zeroCellsOf Tryd.prog 18 = some (#[Value.pointer none]) := by kernel_rfl
theorem Tryd.alloc18 {h : AH} : aalloc Tryd.prog h 18 = mkAlloc h (some (#[Value.pointer none])) := aalloc_eq' Tryd.zero18
theorem Tryd.zero19 : zeroCellsOf Tryd.prog 19 = some (#[Value.pointer none]) := by kernel_rfl
theorem Tryd.alloc19 {h : AH} : aalloc Tryd.prog h 19 = mkAlloc h (some (#[Value.pointer none])) := aalloc_eq' Tryd.zero19
theorem Tryd.zero20 : zeroCellsOf Tryd.prog 20 = some (#[Value.nilIface]) := by kernel_rfl
theorem Tryd.alloc20 {h : AH} : aalloc Tryd.prog h 20 = mkAlloc h (some (#[Value.nilIface])) := aalloc_eq' Tryd.zero20
theorem Tryd.zero21 : zeroCellsOf Tryd.prog 21 = some (#[Value.int IntKind.i32 (0)]) := by kernel_rfl
theorem Tryd.alloc21 {h : AH} : aalloc Tryd.prog h 21 = mkAlloc h (some (#[Value.int IntKind.i32 (0)])) := aalloc_eq' Tryd.zero21
theorem Tryd.zero22 : zeroCellsOf Tryd.prog 22 = some (#[Value.slice none 0 0]) := by kernel_rfl
theorem Tryd.alloc22 {h : AH} : aalloc Tryd.prog h 22 = mkAlloc h (some (#[Value.slice none 0 0])) := aalloc_eq' Tryd.zero22
theorem Tryd.zero23 : zeroCellsOf Tryd.prog 23 = some (#[Value.int IntKind.u64 (0)]) := by kernel_rfl
theorem Tryd.alloc23 {h : AH} : aalloc Tryd.prog h 23 = mkAlloc h (some (#[Value.int IntKind.u64 (0)])) := aalloc_eq' Tryd.zero23
theorem Tryd.zero24 : zeroCellsOf Tryd.prog 24 = some (#[Value.int IntKind.u64 (0), Value.int IntKind.u64 (0), Value.int IntKind.u64 (0), Value.int IntKind.u64 (0)]) := by kernel_rfl
theorem Tryd.alloc24 {h : AH} : aalloc Tryd.prog h 24 = mkAlloc h (some (#[Value.int IntKind.u64 (0), Value.int IntKind.u64 (0), Value.int IntKind.u64 (0), Value.int IntKind.u64 (0)])) := aalloc_eq' Tryd.zero24
theorem Tryd.zero25 : zeroCellsOf Tryd.prog 25 = some (#[Value.int IntKind.u64 (0), Value.int IntKind.u64 (0), Value.int IntKind.u64 (0), Value.int IntKind.u64 (0)]) := by kernel_rfl
theorem Tryd.alloc25 {h : AH} : aalloc Tryd.prog h 25 = mkAlloc h (some (#[Value.int IntKind.u64 (0), Value.int IntKind.u64 (0), Value.int IntKind.u64 (0), Value.int IntKind.u64 (0)])) := aalloc_eq' Tryd.zero25
theorem Tryd.zero26 : zeroCellsOf Tryd.prog 26 = some (#[Value.nilFunc]) := by kernel_rfl
theorem Tryd.alloc26 {h : AH} : aalloc Tryd.prog h 26 = mkAlloc h (some (#[Value.nilFunc])) := aalloc_eq' Tryd.zero26
theorem Tryd.zero27 : zeroCellsOf Tryd.prog 27 = some (#[Value.nilFunc]) := by kernel_rfl
theorem Tryd.alloc27 {h : AH} : aalloc Tryd.prog h 27 = mkAlloc h (some (#[Value.nilFunc])) := aalloc_eq' Tryd.zero27
theorem Tryd.zero28 : zeroCellsOf Tryd.prog 28 = some (#[Value.nilFunc]) := by kernel_rfl
theorem Tryd.alloc28 {h : AH} : aalloc Tryd.prog h 28 = mkAlloc h (some (#[Value.nilFunc])) := aalloc_eq' Tryd.zero28
theorem Tryd.zero29 : zeroCellsOf Tryd.prog 29 = some (#[Value.nilFunc]) := by kernel_rfl
theorem Tryd.alloc29 {h : AH} : aalloc Tryd.prog h 29 = mkAlloc h (some (#[Value.nilFunc])) := aalloc_eq' Tryd.zero29
theorem Tryd.zero30 : zeroCellsOf Tryd.prog 30 = some (#[Value.int IntKind.u16 (0)]) := by kernel_rfl
theorem Tryd.alloc30 {h : AH} : aalloc Tryd.prog h 30 = mkAlloc h (some (#[Value.int IntKind.u16 (0)])) := aalloc_eq' Tryd.zero30
theorem Tryd.zero31 : zeroCellsOf Tryd.prog 31 = some (#[Value.int IntKind.u16 (0)]) := by kernel_rfl
theorem Tryd.alloc31 {h : AH} : aalloc Tryd.prog h 31 = mkAlloc h (some (#[Value.int IntKind.u16 (0)])) := aalloc_eq' Tryd.zero31
theorem Tryd.zero33 : zeroCellsOf Tryd.prog 33 = some (#[Value.nilFunc]) := by kernel_rfl
theorem Tryd.alloc33 {h : AH} : aalloc Tryd.prog h 33 = mkAlloc h (some (#[Value.nilFunc])) := aalloc_eq' Tryd.zero33
theorem Tryd.zero35 : zeroCellsOf Tryd.prog 35 = some (#[Value.nilFunc]) := by kernel_rfl
theorem Tryd.alloc35 {h : AH} : aalloc Tryd.prog h 35 = mkAlloc h (some (#[Value.nilFunc])) := aalloc_eq' Tryd.zero35
theorem Tryd.zero37 : zeroCellsOf Tryd.prog 37 = some (#[Value.nilFunc]) := by kernel_rfl
theorem Tryd.alloc37 {h : AH} : aalloc Tryd.prog h 37 = mkAlloc h (some (#[Value.nilFunc])) := aalloc_eq' Tryd.zero37
theorem Tryd.zero39 : zeroCellsOf Tryd.prog 39 = some (#[Value.nilFunc]) := by kernel_rfl
theorem Tryd.alloc39 {h : AH} : aalloc Tryd.prog h 39 = mkAlloc h (some (#[Value.nilFunc])) := aalloc_eq' Tryd.zero39
theorem Tryd.zero40 : zeroCellsOf Tryd.prog 40 = some ((Array.replicate 20 (Value.int IntKind.u8 (0)))) := by kernel_rfl
theorem Tryd.alloc40 {h : AH} : aalloc Tryd.prog h 40 = mkAlloc h (some ((Array.replicate 20 (Value.int IntKind.u8 (0))))) := aalloc_eq' Tryd.zero40
theorem Tryd.zero41 : zeroCellsOf Tryd.prog 41 = some ((Array.replicate 20 (Value.int IntKind.u8 (0)))) := by kernel_rfl
theorem Tryd.alloc41 {h : AH} : aalloc Tryd.prog h 41 = mkAlloc h (some ((Array.replicate 20 (Value.int IntKind.u8 (0))))) := aalloc_eq' Tryd.zero41
theorem Tryd.zero43 : zeroCellsOf Tryd.prog 43 = some (#[Value.nilFunc]) := by kernel_rfl
theorem Tryd.alloc43 {h : AH} : aalloc Tryd.prog h 43 = mkAlloc h (some (#[Value.nilFunc])) := aalloc_eq' Tryd.zero43
theorem Tryd.zero45 : zeroCellsOf Tryd.prog 45 = some (#[Value.nilFunc]) := by kernel_rfl
theorem Tryd.alloc45 {h : AH} : aalloc Tryd.prog h 45 = mkAlloc h (some (#[Value.nilFunc])) := aalloc_eq' Tryd.zero45
theorem Tryd.zero46 : zeroCellsOf Tryd.prog 46 = some (#[Value.nilFunc]) := by kernel_rfl
theorem Tryd.alloc46 {h : AH} : aalloc Tryd.prog h 46 = mkAlloc h (some (#[Value.nilFunc])) := aalloc_eq' Tryd.zero46
theorem Tryd.zero47 : zeroCellsOf Tryd.prog 47 = some (#[Value.nilFunc]) := by kernel_rfl
theorem Tryd.alloc47 {h : AH} : aalloc Tryd.prog h 47 = mkAlloc h (some (#[Value.nilFunc])) := aalloc_eq' Tryd.zero47
theorem Tryd.zero48 : zeroCellsOf Tryd.prog 48 = some (#[Value.nilFunc]) := by kernel_rfl
theorem Tryd.alloc48 {h : AH} : aalloc Tryd.prog h 48 = mkAlloc h (some (#[Value.nilFunc])) := aalloc_eq' Tryd.zero48
theorem Tryd.zero49 : zeroCellsOf Tryd.prog 49 = some (#[Value.pointer none]) := by kernel_rfl
theorem Tryd.alloc49 {h : AH} : aalloc Tryd.prog h 49 = mkAlloc h (some (#[Value.pointer none])) := aalloc_eq' Tryd.zero49
theorem Tryd.zero50 : zeroCellsOf Tryd.prog 50 = some (#[Value.pointer none, Value.slice none 0 0]) := by kernel_rfl
theorem Tryd.alloc50 {h : AH} : aalloc Tryd.prog h 50 = mkAlloc h (some (#[Value.pointer none, Value.slice none 0 0])) := aalloc_eq' Tryd.zero50
theorem Tryd.zero52 : zeroCellsOf Tryd.prog 52 = some (#[Value.nilIface]) := by kernel_rfl
theorem Tryd.alloc52 {h : AH} : aalloc Tryd.prog h 52 = mkAlloc h (some (#[Value.nilIface])) := aalloc_eq' Tryd.zero52
theorem Tryd.zero53 : zeroCellsOf Tryd.prog 53 = some (#[Value.nilIface]) := by kernel_rfl
theorem Tryd.alloc53 {h : AH} : aalloc Tryd.prog h 53 = mkAlloc h (some (#[Value.nilIface])) := aalloc_eq' Tryd.zero53
theorem Tryd.zero55 : zeroCellsOf Tryd.prog 55 = some (#[Value.nilFunc]) := by kernel_rfl
theorem Tryd.alloc55 {h : AH} : aalloc Tryd.prog h 55 = mkAlloc h (some (#[Value.nilFunc])) := aalloc_eq' Tryd.zero55
theorem Tryd.zero56 : zeroCellsOf Tryd.prog 56 = some (#[Value.nilFunc]) := by kernel_rfl
theorem Tryd.alloc56 {h : AH} : aalloc Tryd.prog h 56 = mkAlloc h (some (#[Value.nilFunc])) := aalloc_eq' Tryd.zero56
theorem Tryd.zero57 : zeroCellsOf Tryd.prog 57 = some (#[Value.int IntKind.u64 (0)]) := by kernel_rfl
theorem Tryd.alloc57 {h : AH} : aalloc Tryd.prog h 57 = mkAlloc h (some (#[Value.int IntKind.u64 (0)])) := aalloc_eq' Tryd.zero57
theorem Tryd.zero58 : zeroCellsOf Tryd.prog 58 = some (#[Value.nilFunc]) := by kernel_rfl
theorem Tryd.alloc58 {h : AH} : aalloc Tryd.prog h 58 = mkAlloc h (some (#[Value.nilFunc])) := aalloc_eq' Tryd.zero58
theorem Tryd.zero59 : zeroCellsOf Tryd.prog 59 = some (#[Value.nilFunc]) := by kernel_rfl
theorem Tryd.alloc59 {h : AH} : aalloc Tryd.prog h 59 = mkAlloc h (some (#[Value.nilFunc])) := aalloc_eq' Tryd.zero59
theorem Tryd.zero60 : zeroCellsOf Tryd.prog 60 = some (#[Value.nilFunc]) := by kernel_rfl
theorem Tryd.alloc60 {h : AH} : aalloc Tryd.prog h 60 = mkAlloc h (some (#[Value.nilFunc])) := aalloc_eq' Tryd.zero60
theorem Tryd.zero62 : zeroCellsOf Tryd.prog 62 = some (#[Value.nilFunc]) := by kernel_rfl
theorem Tryd.alloc62 {h : AH} : aalloc Tryd.prog h 62 = mkAlloc h (some (#[Value.nilFunc])) := aalloc_eq' Tryd.zero62
theorem Tryd.zero63 : zeroCellsOf Tryd.prog 63 = some (#[Value.nilFunc]) := by kernel_rfl
theorem Tryd.alloc63 {h : AH} : aalloc Tryd.prog h 63 = mkAlloc h (some (#[Value.nilFunc])) := aalloc_eq' Tryd.zero63
theorem Tryd.zero64 : zeroCellsOf Tryd.prog 64 = some (#[Value.slice none 0 0]) := by kernel_rfl
theorem Tryd.alloc64 {h : AH} : aalloc Tryd.prog h 64 = mkAlloc h (some (#[Value.slice none 0 0])) := aalloc_eq' Tryd.zero64
theorem Tryd.zero66 : zeroCellsOf Tryd.prog 66 = some (#[Value.nilFunc]) := by kernel_rfl
theorem Tryd.alloc66 {h : AH} : aalloc Tryd.prog h 66 = mkAlloc h (some (#[Value.nilFunc])) := aalloc_eq' Tryd.zero66
theorem Tryd.zero67 : zeroCellsOf Tryd.prog 67 = some (#[Value.nilFunc]) := by kernel_rfl
theorem Tryd.alloc67 {h : AH} : aalloc Tryd.prog h 67 = mkAlloc h (some (#[Value.nilFunc])) := aalloc_eq' Tryd.zero67
theorem Tryd.zero68 : zeroCellsOf Tryd.prog 68 = some (#[Value.nilFunc]) := by kernel_rfl
theorem Tryd.alloc68 {h : AH} : aalloc Tryd.prog h 68 = mkAlloc h (some (#[Value.nilFunc])) := aalloc_eq' Tryd.zero68
theorem Tryd.zero69 : zeroCellsOf Tryd.prog 69 = some (#[Value.nilFunc]) := by kernel_rfl
theorem Tryd.alloc69 {h : AH} : aalloc Tryd.prog h 69 = mkAlloc h (some (#[Value.nilFunc])) := aalloc_eq' Tryd.zero69
theorem Tryd.zero70 : zeroCellsOf Tryd.prog 70 = some (#[Value.nilFunc]) := by kernel_rfl
theorem Tryd.alloc70 {h : AH} : aalloc Tryd.prog h 70 = mkAlloc h (some (#[Value.nilFunc])) := aalloc_eq' Tryd.zero70
theorem Tryd.zero71 : zeroCellsOf Tryd.prog 71 = some (#[Value.pointer none]) := by kernel_rfl
theorem Tryd.alloc71 {h : AH} : aalloc Tryd.prog h 71 = mkAlloc h (some (#[Value.pointer none])) := aalloc_eq' Tryd.zero71
theorem Tryd.zero72 : zeroCellsOf Tryd.prog 72 = some (#[Value.nilFunc]) := by kernel_rfl
theorem Tryd.alloc72 {h : AH} : aalloc Tryd.prog h 72 = mkAlloc h (some (#[Value.nilFunc])) := aalloc_eq' Tryd.zero72
theorem Tryd.zero73 : zeroCellsOf Tryd.prog 73 = some ((Array.replicate 256 (Value.bool false))) := by kernel_rfl
theorem Tryd.alloc73 {h : AH} : aalloc Tryd.prog h 73 = mkAlloc h (some ((Array.replicate 256 (Value.bool false)))) := aalloc_eq' Tryd.zero73
theorem Tryd.zero74 : zeroCellsOf Tryd.prog 74 = some ((Array.replicate 256 (Value.bool false))) := by kernel_rfl
theorem Tryd.alloc74 {h : AH} : aalloc Tryd.prog h 74 = mkAlloc h (some ((Array.replicate 256 (Value.bool false)))) := aalloc_eq' Tryd.zero74
theorem Tryd.zero76 : zeroCellsOf Tryd.prog 76 = some (#[Value.nilFunc]) := by kernel_rfl
theorem Tryd.alloc76 {h : AH} : aalloc Tryd.prog h 76 = mkAlloc h (some (#[Value.nilFunc])) := aalloc_eq' Tryd.zero76
theorem Tryd.zero77 : zeroCellsOf Tryd.prog 77 = some (#[Value.nilFunc]) := by kernel_rfl
theorem Tryd.alloc77 {h : AH} : aalloc Tryd.prog h 77 = mkAlloc h (some (#[Value.nilFunc])) := aalloc_eq' Tryd.zero77
theorem Tryd.zero78 : zeroCellsOf Tryd.prog 78 = some (#[Value.pointer none]) := by kernel_rfl
theorem Tryd.alloc78 {h : AH} : aalloc Tryd.prog h 78 = mkAlloc h (some (#[Value.pointer none])) := aalloc_eq' Tryd.zero78
theorem Tryd.zero80 : zeroCellsOf Tryd.prog 80 = some (#[Value.nilFunc]) := by kernel_rfl
theorem Tryd.alloc80 {h : AH} : aalloc Tryd.prog h 80 = mkAlloc h (some (#[Value.nilFunc])) := aalloc_eq' Tryd.zero80
theorem Tryd.zero82 : zeroCellsOf Tryd.prog 82 = some (#[Value.nilFunc]) := by kernel_rfl
theorem Tryd.alloc82 {h : AH} : aalloc Tryd.prog h 82 = mkAlloc h (some (#[Value.nilFunc])) := aalloc_eq' Tryd.zero82
theorem Tryd.zero83 : zeroCellsOf Tryd.prog 83 = some (#[Value.nilFunc]) := by kernel_rfl
theorem Tryd.alloc83 {h : AH} : aalloc Tryd.prog h 83 = mkAlloc h (some (#[Value.nilFunc])) := aalloc_eq' Tryd.zero83
theorem Tryd.zero84 : zeroCellsOf Tryd.prog 84 = some (#[Value.nilFunc]) := by kernel_rfl
theorem Tryd.alloc84 {h : AH} : aalloc Tryd.prog h 84 = mkAlloc h (some (#[Value.nilFunc])) := aalloc_eq' Tryd.zero84
theorem Tryd.zero85 : zeroCellsOf Tryd.prog 85 = some (#[Value.nilFunc]) := by kernel_rfl
theorem Tryd.alloc85 {h : AH} : aalloc Tryd.prog h 85 = mkAlloc h (some (#[Value.nilFunc])) := aalloc_eq' Tryd.zero85
theorem Tryd.zero86 : zeroCellsOf Tryd.prog 86 = some (#[Value.pointer none]) := by kernel_rfl
theorem Tryd.alloc86 {h : AH} : aalloc Tryd.prog h 86 = mkAlloc h (some (#[Value.pointer none])) := aalloc_eq' Tryd.zero86
theorem Tryd.zero87 : zeroCellsOf Tryd.prog 87 = some (#[Value.nilFunc]) := by kernel_rfl
theorem Tryd.alloc87 {h : AH} : aalloc Tryd.prog h 87 = mkAlloc h (some (#[Value.nilFunc])) := aalloc_eq' Tryd.zero87
theorem Tryd.zero88 : zeroCellsOf Tryd.prog 88 = some (#[Value.nilFunc]) := by kernel_rfl
theorem Tryd.alloc88 {h : AH} : aalloc Tryd.prog h 88 = mkAlloc h (some (#[Value.nilFunc])) := aalloc_eq' Tryd.zero88
theorem Tryd.zero90 : zeroCellsOf Tryd.prog 90 = some (#[Value.nilFunc]) := by kernel_rfl
theorem Tryd.alloc90 {h : AH} : aalloc Tryd.prog h 90 = mkAlloc h (some (#[Value.nilFunc])) := aalloc_eq' Tryd.zero90
theorem Tryd.zero91 : zeroCellsOf Tryd.prog 91 = some (#[Value.nilFunc]) := by kernel_rfl
theorem Tryd.alloc91 {h : AH} : aalloc Tryd.prog h 91 = mkAlloc h (some (#[Value.nilFunc])) := aalloc_eq' Tryd.zero91
theorem Tryd.zero92 : zeroCellsOf Tryd.prog 92 = some (#[Value.nilFunc]) := by kernel_rfl
theorem Tryd.alloc92 {h : AH} : aalloc Tryd.prog h 92 = mkAlloc h (some (#[Value.nilFunc])) := aalloc_eq' Tryd.zero92
theorem Tryd.zero94 : zeroCellsOf Tryd.prog 94 = some (#[Value.nilFunc]) := by kernel_rfl
theorem Tryd.alloc94 {h : AH} : aalloc Tryd.prog h 94 = mkAlloc h (some (#[Value.nilFunc])) := aalloc_eq' Tryd.zero94
theorem Tryd.zero95 : zeroCellsOf Tryd.prog 95 = some (#[Value.nilFunc]) := by kernel_rfl
theorem Tryd.alloc95 {h : AH} : aalloc Tryd.prog h 95 = mkAlloc h (some (#[Value.nilFunc])) := aalloc_eq' Tryd.zero95
theorem Tryd.zero96 : zeroCellsOf Tryd.prog 96 = some (#[Value.nilFunc]) := by kernel_rfl
theorem Tryd.alloc96 {h : AH} : aalloc Tryd.prog h 96 = mkAlloc h (some (#[Value.nilFunc])) := aalloc_eq' Tryd.zero96
theorem Tryd.zero97 : zeroCellsOf Tryd.prog 97 = some ((Array.replicate 256 (Value.int IntKind.u8 (0)))) := by kernel_rfl
theorem Tryd.alloc97 {h : AH} : aalloc Tryd.prog h 97 = mkAlloc h (some ((Array.replicate 256 (Value.int IntKind.u8 (0))))) := aalloc_eq' Tryd.zero97
theorem Tryd.zero98 : zeroCellsOf Tryd.prog 98 = some (#[Value.int IntKind.u8 (0), Value.int IntKind.u8 (0)]) := by kernel_rfl
theorem Tryd.alloc98 {h : AH} : aalloc Tryd.prog h 98 = mkAlloc h (some (#[Value.int IntKind.u8 (0), Value.int IntKind.u8 (0)])) := aalloc_eq' Tryd.zero98
theorem Tryd.zero99 : zeroCellsOf Tryd.prog 99 = some (#[Value.int IntKind.u8 (0), Value.int IntKind.u8 (0)]) := by kernel_rfl
theorem Tryd.alloc99 {h : AH} : aalloc Tryd.prog h 99 = mkAlloc h (some (#[Value.int IntKind.u8 (0), Value.int IntKind.u8 (0)])) := aalloc_eq' Tryd.zero99
theorem Tryd.zero100 : zeroCellsOf Tryd.prog 100 = some ((Array.replicate 32 (Value.int IntKind.u8 (0)))) := by kernel_rfl
theorem Tryd.alloc100 {h : AH} : aalloc Tryd.prog h 100 = mkAlloc h (some ((Array.replicate 32 (Value.int IntKind.u8 (0))))) := aalloc_eq' Tryd.zero100
theorem Tryd.zero101 : zeroCellsOf Tryd.prog 101 = some (#[Value.nilFunc]) := by kernel_rfl
theorem Tryd.alloc101 {h : AH} : aalloc Tryd.prog h 101 = mkAlloc h (some (#[Value.nilFunc])) := aalloc_eq' Tryd.zero101
theorem Tryd.zero102 : zeroCellsOf Tryd.prog 102 = some (#[Value.nilFunc]) := by kernel_rfl
theorem Tryd.alloc102 {h : AH} : aalloc Tryd.prog h 102 = mkAlloc h (some (#[Value.nilFunc])) := aalloc_eq' Tryd.zero102
theorem Tryd.zero103 : zeroCellsOf Tryd.prog 103 = some (#[Value.nilFunc]) := by kernel_rfl
theorem Tryd.alloc103 {h : AH} : aalloc Tryd.prog h 103 = mkAlloc h (some (#[Value.nilFunc])) := aalloc_eq' Tryd.zero103
theorem Tryd.zero104 : zeroCellsOf Tryd.prog 104 = some (#[Value.nilFunc]) := by kernel_rfl
theorem Tryd.alloc104 {h : AH} : aalloc Tryd.prog h 104 = mkAlloc h (some (#[Value.nilFunc])) := aalloc_eq' Tryd.zero104
theorem Tryd.zero105 : zeroCellsOf Tryd.prog 105 = some (#[Value.pointer none, Value.pointer none, Value.pointer none, Value.string { data := { toList := [] } }]) := by kernel_rfl
theorem Tryd.alloc105 {h : AH} : aalloc Tryd.prog h 105 = mkAlloc h (some (#[Value.pointer none, Value.pointer none, Value.pointer none, Value.string { data := { toList := [] } }])) := aalloc_eq' Tryd.zero105
theorem Tryd.zero106 : zeroCellsOf Tryd.prog 106 = some (#[Value.pointer none, Value.pointer none, Value.pointer none, Value.string { data := { toList := [] } }]) := by kernel_rfl
theorem Tryd.alloc106 {h : AH} : aalloc Tryd.prog h 106 = mkAlloc h (some (#[Value.pointer none, Value.pointer none, Value.pointer none, Value.string { data := { toList := [] } }])) := aalloc_eq' Tryd.zero106
theorem Tryd.zero110 : zeroCellsOf Tryd.prog 110 = some (#[Value.nilFunc]) := by kernel_rfl
theorem Tryd.alloc110 {h : AH} : aalloc Tryd.prog h 110 = mkAlloc h (some (#[Value.nilFunc])) := aalloc_eq' Tryd.zero110
theorem Tryd.zero111 : zeroCellsOf Tryd.prog 111 = some (#[Value.int IntKind.u32 (0)]) := by kernel_rfl
theorem Tryd.alloc111 {h : AH} : aalloc Tryd.prog h 111 = mkAlloc h (some (#[Value.int IntKind.u32 (0)])) := aalloc_eq' Tryd.zero111
theorem Tryd.zero112 : zeroCellsOf Tryd.prog 112 = some (#[Value.int IntKind.u8 (0)]) := by kernel_rfl
theorem Tryd.alloc112 {h : AH} : aalloc Tryd.prog h 112 = mkAlloc h (some (#[Value.int IntKind.u8 (0)])) := aalloc_eq' Tryd.zero112
theorem Tryd.zero113 : zeroCellsOf Tryd.prog 113 = some (#[Value.int IntKind.u8 (0)]) := by kernel_rfl
theorem Tryd.alloc113 {h : AH} : aalloc Tryd.prog h 113 = mkAlloc h (some (#[Value.int IntKind.u8 (0)])) := aalloc_eq' Tryd.zero113
theorem Tryd.zero114 : zeroCellsOf Tryd.prog 114 = some (#[Value.nilFunc]) := by kernel_rfl
theorem Tryd.alloc114 {h : AH} : aalloc Tryd.prog h 114 = mkAlloc h (some (#[Value.nilFunc])) := aalloc_eq' Tryd.zero114
theorem Tryd.zero115 : zeroCellsOf Tryd.prog 115 = some (#[Value.int IntKind.i32 (0)]) := by kernel_rfl
theorem Tryd.alloc115 {h : AH} : aalloc Tryd.prog h 115 = mkAlloc h (some (#[Value.int IntKind.i32 (0)])) := aalloc_eq' Tryd.zero115
theorem Tryd.zero116 : zeroCellsOf Tryd.prog 116 = some (#[Value.int IntKind.i32 (0)]) := by kernel_rfl
theorem Tryd.alloc116 {h : AH} : aalloc Tryd.prog h 116 = mkAlloc h (some (#[Value.int IntKind.i32 (0)])) := aalloc_eq' Tryd.zero116
theorem Tryd.zero117 : zeroCellsOf Tryd.prog 117 = some (#[Value.int IntKind.u64 (0), Value.int IntKind.u64 (0), Value.int IntKind.u32 (0), Value.int IntKind.u8 (0), Value.int IntKind.u8 (0), Value.int IntKind.u8 (0), Value.int IntKind.u8 (0), Value.nilFunc, Value.pointer none, Value.int IntKind.i32 (0), Value.int IntKind.i32 (0)]) := by kernel_rfl
theorem Tryd.alloc117 {h : AH} : aalloc Tryd.prog h 117 = mkAlloc h (some (#[Value.int IntKind.u64 (0), Value.int IntKind.u64 (0), Value.int IntKind.u32 (0), Value.int IntKind.u8 (0), Value.int IntKind.u8 (0), Value.int IntKind.u8 (0), Value.int IntKind.u8 (0), Value.nilFunc, Value.pointer none, Value.int IntKind.i32 (0), Value.int IntKind.i32 (0)])) := aalloc_eq' Tryd.zero117
theorem Tryd.zero118 : zeroCellsOf Tryd.prog 118 = some (#[Value.int IntKind.u64 (0), Value.int IntKind.u64 (0), Value.int IntKind.u32 (0), Value.int IntKind.u8 (0), Value.int IntKind.u8 (0), Value.int IntKind.u8 (0), Value.int IntKind.u8 (0), Value.nilFunc, Value.pointer none, Value.int IntKind.i32 (0), Value.int IntKind.i32 (0)]) := by kernel_rfl
theorem Tryd.alloc118 {h : AH} : aalloc Tryd.prog h 118 = mkAlloc h (some (#[Value.int IntKind.u64 (0), Value.int IntKind.u64 (0), Value.int IntKind.u32 (0), Value.int IntKind.u8 (0), Value.int IntKind.u8 (0), Value.int IntKind.u8 (0), Value.int IntKind.u8 (0), Value.nilFunc, Value.pointer none, Value.int IntKind.i32 (0), Value.int IntKind.i32 (0)])) := aalloc_eq' Tryd.zero118
theorem Tryd.plc7 : plc Tryd.prog 7 = some [(0, 1), (1, 1), (2, 1), (3, 1)] := by kernel_rfl
theorem Tryd.build7 {ps : List (Nat × Value)} : abuild Tryd.prog 7 ps = mkBuild ps (some (#[Value.int IntKind.i64 (0), Value.int IntKind.i64 (0), Value.bool false, Value.int IntKind.u8 (0)])) (some [(0, 1), (1, 1), (2, 1), (3, 1)]) := abuild_eq' Tryd.zero7 Tryd.plc7
theorem Tryd.plc8 : plc Tryd.prog 8 = some [(0, 1), (1, 1), (2, 1), (3, 1)] := by kernel_rfl
theorem Tryd.build8 {ps : List (Nat × Value)} : abuild Tryd.prog 8 ps = mkBuild ps (some (#[Value.int IntKind.i64 (0), Value.int IntKind.i64 (0), Value.bool false, Value.int IntKind.u8 (0)])) (some [(0, 1), (1, 1), (2, 1), (3, 1)]) := abuild_eq' Tryd.zero8 Tryd.plc8
theorem Tryd.plc13 : plc Tryd.prog 13 = some [(0, 1), (1, 1)] := by kernel_rfl
theorem Tryd.build13 {ps : List (Nat × Value)} : abuild Tryd.prog 13 ps = mkBuild ps (some (#[Value.string { data := { toList := [] } }, Value.int IntKind.u64 (0)])) (some [(0, 1), (1, 1)]) := abuild_eq' Tryd.zero13 Tryd.plc13
theorem Tryd.plc14 : plc Tryd.prog 14 = some [(0, 1), (1, 1)] := by kernel_rfl
theorem Tryd.build14 {ps : List (Nat × Value)} : abuild Tryd.prog 14 ps = mkBuild ps (some (#[Value.string { data := { toList := [] } }, Value.int IntKind.u64 (0)])) (some [(0, 1), (1, 1)]) := abuild_eq' Tryd.zero14 Tryd.plc14
theorem Tryd.plc18 : plc Tryd.prog 18 = some [(0, 1)] := by kernel_rfl
theorem Tryd.build18 {ps : List (Nat × Value)} : abuild Tryd.prog 18 ps = mkBuild ps (some (#[Value.pointer none])) (some [(0, 1)]) := abuild_eq' Tryd.zero18 Tryd.plc18
theorem Tryd.plc19 : plc Tryd.prog 19 = some [(0, 1)] := by kernel_rfl
theorem Tryd.build19 {ps : List (Nat × Value)} : abuild Tryd.prog 19 ps = mkBuild ps (some (#[Value.pointer none])) (some [(0, 1)]) := abuild_eq' Tryd.zero19 Tryd.plc19
theorem Tryd.plc50 : plc Tryd.prog 50 = some [(0, 1), (1, 1)] := by kernel_rfl
theorem Tryd.build50 {ps : List (Nat × Value)} : abuild Tryd.prog 50 ps = mkBuild ps (some (#[Value.pointer none, Value.slice none 0 0])) (some [(0, 1), (1, 1)]) := abuild_eq' Tryd.zero50 Tryd.plc50
theorem Tryd.plc51 : plc Tryd.prog 51 = some [(0, 1), (1, 1)] := by kernel_rfl
theorem Tryd.plc98 : plc Tryd.prog 98 = some [(0, 1), (1, 1)] := by kernel_rfl
theorem Tryd.build98 {ps : List (Nat × Value)} : abuild Tryd.prog 98 ps = mkBuild ps (some (#[Value.int IntKind.u8 (0), Value.int IntKind.u8 (0)])) (some [(0, 1), (1, 1)]) := abuild_eq' Tryd.zero98 Tryd.plc98
theorem Tryd.plc99 : plc Tryd.prog 99 = some [(0, 1), (1, 1)] := by kernel_rfl
theorem Tryd.build99 {ps : List (Nat × Value)} : abuild Tryd.prog 99 ps = mkBuild ps (some (#[Value.int IntKind.u8 (0), Value.int IntKind.u8 (0)])) (some [(0, 1), (1, 1)]) := abuild_eq' Tryd.zero99 Tryd.plc99
theorem Tryd.plc105 : plc Tryd.prog 105 = some [(0, 1), (1, 1), (2, 1), (3, 1)] := by kernel_rfl
theorem Tryd.build105 {ps : List (Nat × Value)} : abuild Tryd.prog 105 ps = mkBuild ps (some (#[Value.pointer none, Value.pointer none, Value.pointer none, Value.string { data := { toList := [] } }])) (some [(0, 1), (1, 1), (2, 1), (3, 1)]) := abuild_eq' Tryd.zero105 Tryd.plc105
theorem Tryd.plc106 : plc Tryd.prog 106 = some [(0, 1), (1, 1), (2, 1), (3, 1)] := by kernel_rfl
theorem Tryd.build106 {ps : List (Nat × Value)} : abuild Tryd.prog 106 ps = mkBuild ps (some (#[Value.pointer none, Value.pointer none, Value.pointer none, Value.string { data := { toList := [] } }])) (some [(0, 1), (1, 1), (2, 1), (3, 1)]) := abuild_eq' Tryd.zero106 Tryd.plc106
theorem Tryd.plc108 : plc Tryd.prog 108 = some [(0, 0)] := by kernel_rfl
theorem Tryd.plc109 : plc Tryd.prog 109 = some [(0, 0)] := by kernel_rfl
theorem Tryd.plc117 : plc Tryd.prog 117 = some [(0, 1), (1, 1), (2, 1), (3, 1), (4, 1), (5, 1), (6, 1), (7, 1), (8, 1), (9, 1), (10, 1)] := by kernel_rfl
theorem Tryd.build117 {ps : List (Nat × Value)} : abuild Tryd.prog 117 ps = mkBuild ps (some (#[Value.int IntKind.u64 (0), Value.int IntKind.u64 (0), Value.int IntKind.u32 (0), Value.int IntKind.u8 (0), Value.int IntKind.u8 (0), Value.int IntKind.u8 (0), Value.int IntKind.u8 (0), Value.nilFunc, Value.pointer none, Value.int IntKind.i32 (0), Value.int IntKind.i32 (0)])) (some [(0, 1), (1, 1), (2, 1), (3, 1), (4, 1), (5, 1), (6, 1), (7, 1), (8, 1), (9, 1), (10, 1)]) := abuild_eq' Tryd.zero117 Tryd.plc117
theorem Tryd.plc118 : plc Tryd.prog 118 = some [(0, 1), (1, 1), (2, 1), (3, 1), (4, 1), (5, 1), (6, 1), (7, 1), (8, 1), (9, 1), (10, 1)] := by kernel_rfl
theorem Tryd.build118 {ps : List (Nat × Value)} : abuild Tryd.prog 118 ps = mkBuild ps (some (#[Value.int IntKind.u64 (0), Value.int IntKind.u64 (0), Value.int IntKind.u32 (0), Value.int IntKind.u8 (0), Value.int IntKind.u8 (0), Value.int IntKind.u8 (0), Value.int IntKind.u8 (0), Value.nilFunc, Value.pointer none, Value.int IntKind.i32 (0), Value.int IntKind.i32 (0)])) (some [(0, 1), (1, 1), (2, 1), (3, 1), (4, 1), (5, 1), (6, 1), (7, 1), (8, 1), (9, 1), (10, 1)]) := abuild_eq' Tryd.zero118 Tryd.plc118
theorem Tryd.arr24 : arr Tryd.prog 24 = some (4, false, 1) := by kernel_rfl
theorem Tryd.index24 {c : Array Value} {k : IntKind} {i : Int} : aindex Tryd.prog 24 (.agg c) (.int k i) = mkIndex c i (some (4, false, 1)) := aindex_eq' Tryd.arr24
theorem Tryd.indexA24 {b o : Nat} {k : IntKind} {i : Int} : aindexAddr Tryd.prog 24 (.pointer (some ⟨b, o, none⟩)) (.int k i) = mkIndexA b o i (some (4, false, 1)) := aindexA_eq' Tryd.arr24
theorem Tryd.indexF24 {c : Array Value} {n : Nat} {k : IntKind} {i : Int} : aindexAddr Tryd.prog 24 (fp c n) (.int k i) = mkIndexF c n i (some (4, false, 1)) := aindexAddr_fp Tryd.arr24
theorem Tryd.sliceF24 {h : AH} {c : Array Value} {n : Nat} {lo hi : Option Value} : aslice Tryd.prog h 24 (fp c n) lo hi = mkSliceF c n lo hi (some (4, false, 1)) := aslice_fp Tryd.arr24
theorem Tryd.arrptrZ24 {c : Array Value} {n : Nat} : aarrayPtr Tryd.prog 24 (fz c n) = if 4 ≤ n ∧ 0 < n then some (fp c 0) else none := aarr_fz Tryd.arr24
theorem Tryd.lenA24 {h : AH} {x : Value} : alen Tryd.prog h 24 x = some (.int .i64 4) := alenA_eq' Tryd.arr24
theorem Tryd.sliceA24 {h : AH} {b o : Nat} {lo hi : Option Value} : aslice Tryd.prog h 24 (.pointer (some ⟨b, o, none⟩)) lo hi = mkSliceA b o lo hi (some (4, false, 1)) := asliceA_eq' Tryd.arr24
theorem Tryd.arrptr24 {b o l c : Nat} : aarrayPtr Tryd.prog 24 (.slice (some ⟨b, o, none⟩) l c) = mkArrPtr b o l (some (4, false, 1)) := aarr_eq' Tryd.arr24
theorem Tryd.buildA24 {ps : List (Nat × Value)} : abuild Tryd.prog 24 ps = mkBuildA ps (some (#[Value.int IntKind.u64 (0), Value.int IntKind.u64 (0), Value.int IntKind.u64 (0), Value.int IntKind.u64 (0)])) (some (4, false, 1)) := abuildA_eq' Tryd.zero24 Tryd.arr24
theorem Tryd.arr25 : arr Tryd.prog 25 = some (4, false, 1) := by kernel_rfl
theorem Tryd.index25 {c : Array Value} {k : IntKind} {i : Int} : aindex Tryd.prog 25 (.agg c) (.int k i) = mkIndex c i (some (4, false, 1)) := aindex_eq' Tryd.arr25
theorem Tryd.indexA25 {b o : Nat} {k : IntKind} {i : Int} : aindexAddr Tryd.prog 25 (.pointer (some ⟨b, o, none⟩)) (.int k i) = mkIndexA b o i (some (4, false, 1)) := aindexA_eq' Tryd.arr25
theorem Tryd.indexF25 {c : Array Value} {n : Nat} {k : IntKind} {i : Int} : aindexAddr Tryd.prog 25 (fp c n) (.int k i) = mkIndexF c n i (some (4, false, 1)) := aindexAddr_fp Tryd.arr25
theorem Tryd.sliceF25 {h : AH} {c : Array Value} {n : Nat} {lo hi : Option Value} : aslice Tryd.prog h 25 (fp c n) lo hi = mkSliceF c n lo hi (some (4, false, 1)) := aslice_fp Tryd.arr25
theorem Tryd.arrptrZ25 {c : Array Value} {n : Nat} : aarrayPtr Tryd.prog 25 (fz c n) = if 4 ≤ n ∧ 0 < n then some (fp c 0) else none := aarr_fz Tryd.arr25
theorem Tryd.lenA25 {h : AH} {x : Value} : alen Tryd.prog h 25 x = some (.int .i64 4) := alenA_eq' Tryd.arr25
theorem Tryd.sliceA25 {h : AH} {b o : Nat} {lo hi : Option Value} : aslice Tryd.prog h 25 (.pointer (some ⟨b, o, none⟩)) lo hi = mkSliceA b o lo hi (some (4, false, 1)) := asliceA_eq' Tryd.arr25
theorem Tryd.arrptr25 {b o l c : Nat} : aarrayPtr Tryd.prog 25 (.slice (some ⟨b, o, none⟩) l c) = mkArrPtr b o l (some (4, false, 1)) := aarr_eq' Tryd.arr25
theorem Tryd.buildA25 {ps : List (Nat × Value)} : abuild Tryd.prog 25 ps = mkBuildA ps (some (#[Value.int IntKind.u64 (0), Value.int IntKind.u64 (0), Value.int IntKind.u64 (0), Value.int IntKind.u64 (0)])) (some (4, false, 1)) := abuildA_eq' Tryd.zero25 Tryd.arr25
theorem Tryd.arr40 : arr Tryd.prog 40 = some (20, false, 1) := by kernel_rfl
theorem Tryd.index40 {c : Array Value} {k : IntKind} {i : Int} : aindex Tryd.prog 40 (.agg c) (.int k i) = mkIndex c i (some (20, false, 1)) := aindex_eq' Tryd.arr40
theorem Tryd.indexA40 {b o : Nat} {k : IntKind} {i : Int} : aindexAddr Tryd.prog 40 (.pointer (some ⟨b, o, none⟩)) (.int k i) = mkIndexA b o i (some (20, false, 1)) := aindexA_eq' Tryd.arr40
theorem Tryd.indexF40 {c : Array Value} {n : Nat} {k : IntKind} {i : Int} : aindexAddr Tryd.prog 40 (fp c n) (.int k i) = mkIndexF c n i (some (20, false, 1)) := aindexAddr_fp Tryd.arr40
theorem Tryd.sliceF40 {h : AH} {c : Array Value} {n : Nat} {lo hi : Option Value} : aslice Tryd.prog h 40 (fp c n) lo hi = mkSliceF c n lo hi (some (20, false, 1)) := aslice_fp Tryd.arr40
theorem Tryd.arrptrZ40 {c : Array Value} {n : Nat} : aarrayPtr Tryd.prog 40 (fz c n) = if 20 ≤ n ∧ 0 < n then some (fp c 0) else none := aarr_fz Tryd.arr40
theorem Tryd.lenA40 {h : AH} {x : Value} : alen Tryd.prog h 40 x = some (.int .i64 20) := alenA_eq' Tryd.arr40
theorem Tryd.sliceA40 {h : AH} {b o : Nat} {lo hi : Option Value} : aslice Tryd.prog h 40 (.pointer (some ⟨b, o, none⟩)) lo hi = mkSliceA b o lo hi (some (20, false, 1)) := asliceA_eq' Tryd.arr40
theorem Tryd.arrptr40 {b o l c : Nat} : aarrayPtr Tryd.prog 40 (.slice (some ⟨b, o, none⟩) l c) = mkArrPtr b o l (some (20, false, 1)) := aarr_eq' Tryd.arr40
theorem Tryd.buildA40 {ps : List (Nat × Value)} : abuild Tryd.prog 40 ps = mkBuildA ps (some ((Array.replicate 20 (Value.int IntKind.u8 (0))))) (some (20, false, 1)) := abuildA_eq' Tryd.zero40 Tryd.arr40
theorem Tryd.arr41 : arr Tryd.prog 41 = some (20, false, 1) := by kernel_rfl
theorem Tryd.index41 {c : Array Value} {k : IntKind} {i : Int} : aindex Tryd.prog 41 (.agg c) (.int k i) = mkIndex c i (some (20, false, 1)) := aindex_eq' Tryd.arr41
theorem Tryd.indexA41 {b o : Nat} {k : IntKind} {i : Int} : aindexAddr Tryd.prog 41 (.pointer (some ⟨b, o, none⟩)) (.int k i) = mkIndexA b o i (some (20, false, 1)) := aindexA_eq' Tryd.arr41
theorem Tryd.indexF41 {c : Array Value} {n : Nat} {k : IntKind} {i : Int} : aindexAddr Tryd.prog 41 (fp c n) (.int k i) = mkIndexF c n i (some (20, false, 1)) := aindexAddr_fp Tryd.arr41
theorem Tryd.sliceF41 {h : AH} {c : Array Value} {n : Nat} {lo hi : Option Value} : aslice Tryd.prog h 41 (fp c n) lo hi = mkSliceF c n lo hi (some (20, false, 1)) := aslice_fp Tryd.arr41
theorem Tryd.arrptrZ41 {c : Array Value} {n : Nat} : aarrayPtr Tryd.prog 41 (fz c n) = if 20 ≤ n ∧ 0 < n then some (fp c 0) else none := aarr_fz Tryd.arr41
theorem Tryd.lenA41 {h : AH} {x : Value} : alen Tryd.prog h 41 x = some (.int .i64 20) := alenA_eq' Tryd.arr41
theorem Tryd.sliceA41 {h : AH} {b o : Nat} {lo hi : Option Value} : aslice Tryd.prog h 41 (.pointer (some ⟨b, o, none⟩)) lo hi = mkSliceA b o lo hi (some (20, false, 1)) := asliceA_eq' Tryd.arr41
theorem Tryd.arrptr41 {b o l c : Nat} : aarrayPtr Tryd.prog 41 (.slice (some ⟨b, o, none⟩) l c) = mkArrPtr b o l (some (20, false, 1)) := aarr_eq' Tryd.arr41
theorem Tryd.buildA41 {ps : List (Nat × Value)} : abuild Tryd.prog 41 ps = mkBuildA ps (some ((Array.replicate 20 (Value.int IntKind.u8 (0))))) (some (20, false, 1)) := abuildA_eq' Tryd.zero41 Tryd.arr41
theorem Tryd.arr73 : arr Tryd.prog 73 = some (256, false, 1) := by kernel_rfl
theorem Tryd.index73 {c : Array Value} {k : IntKind} {i : Int} : aindex Tryd.prog 73 (.agg c) (.int k i) = mkIndex c i (some (256, false, 1)) := aindex_eq' Tryd.arr73
theorem Tryd.indexA73 {b o : Nat} {k : IntKind} {i : Int} : aindexAddr Tryd.prog 73 (.pointer (some ⟨b, o, none⟩)) (.int k i) = mkIndexA b o i (some (256, false, 1)) := aindexA_eq' Tryd.arr73
theorem Tryd.indexF73 {c : Array Value} {n : Nat} {k : IntKind} {i : Int} : aindexAddr Tryd.prog 73 (fp c n) (.int k i) = mkIndexF c n i (some (256, false, 1)) := aindexAddr_fp Tryd.arr73
theorem Tryd.sliceF73 {h : AH} {c : Array Value} {n : Nat} {lo hi : Option Value} : aslice Tryd.prog h 73 (fp c n) lo hi = mkSliceF c n lo hi (some (256, false, 1)) := aslice_fp Tryd.arr73
theorem Tryd.arrptrZ73 {c : Array Value} {n : Nat} : aarrayPtr Tryd.prog 73 (fz c n) = if 256 ≤ n ∧ 0 < n then some (fp c 0) else none := aarr_fz Tryd.arr73
theorem Tryd.lenA73 {h : AH} {x : Value} : alen Tryd.prog h 73 x = some (.int .i64 256) := alenA_eq' Tryd.arr73
theorem Tryd.sliceA73 {h : AH} {b o : Nat} {lo hi : Option Value} : aslice Tryd.prog h 73 (.pointer (some ⟨b, o, none⟩)) lo hi = mkSliceA b o lo hi (some (256, false, 1)) := asliceA_eq' Tryd.arr73
theorem Tryd.arrptr73 {b o l c : Nat} : aarrayPtr Tryd.prog 73 (.slice (some ⟨b, o, none⟩) l c) = mkArrPtr b o l (some (256, false, 1)) := aarr_eq' Tryd.arr73
theorem Tryd.buildA73 {ps : List (Nat × Value)} : abuild Tryd.prog 73 ps = mkBuildA ps (some ((Array.replicate 256 (Value.bool false)))) (some (256, false, 1)) := abuildA_eq' Tryd.zero73 Tryd.arr73
theorem Tryd.arr74 : arr Tryd.prog 74 = some (256, false, 1) := by kernel_rfl
theorem Tryd.index74 {c : Array Value} {k : IntKind} {i : Int} : aindex Tryd.prog 74 (.agg c) (.int k i) = mkIndex c i (some (256, false, 1)) := aindex_eq' Tryd.arr74
theorem Tryd.indexA74 {b o : Nat} {k : IntKind} {i : Int} : aindexAddr Tryd.prog 74 (.pointer (some ⟨b, o, none⟩)) (.int k i) = mkIndexA b o i (some (256, false, 1)) := aindexA_eq' Tryd.arr74
theorem Tryd.indexF74 {c : Array Value} {n : Nat} {k : IntKind} {i : Int} : aindexAddr Tryd.prog 74 (fp c n) (.int k i) = mkIndexF c n i (some (256, false, 1)) := aindexAddr_fp Tryd.arr74
theorem Tryd.sliceF74 {h : AH} {c : Array Value} {n : Nat} {lo hi : Option Value} : aslice Tryd.prog h 74 (fp c n) lo hi = mkSliceF c n lo hi (some (256, false, 1)) := aslice_fp Tryd.arr74
theorem Tryd.arrptrZ74 {c : Array Value} {n : Nat} : aarrayPtr Tryd.prog 74 (fz c n) = if 256 ≤ n ∧ 0 < n then some (fp c 0) else none := aarr_fz Tryd.arr74
theorem Tryd.lenA74 {h : AH} {x : Value} : alen Tryd.prog h 74 x = some (.int .i64 256) := alenA_eq' Tryd.arr74
theorem Tryd.sliceA74 {h : AH} {b o : Nat} {lo hi : Option Value} : aslice Tryd.prog h 74 (.pointer (some ⟨b, o, none⟩)) lo hi = mkSliceA b o lo hi (some (256, false, 1)) := asliceA_eq' Tryd.arr74
theorem Tryd.arrptr74 {b o l c : Nat} : aarrayPtr Tryd.prog 74 (.slice (some ⟨b, o, none⟩) l c) = mkArrPtr b o l (some (256, false, 1)) := aarr_eq' Tryd.arr74
theorem Tryd.buildA74 {ps : List (Nat × Value)} : abuild Tryd.prog 74 ps = mkBuildA ps (some ((Array.replicate 256 (Value.bool false)))) (some (256, false, 1)) := abuildA_eq' Tryd.zero74 Tryd.arr74
theorem Tryd.arr97 : arr Tryd.prog 97 = some (256, false, 1) := by kernel_rfl
theorem Tryd.index97 {c : Array Value} {k : IntKind} {i : Int} : aindex Tryd.prog 97 (.agg c) (.int k i) = mkIndex c i (some (256, false, 1)) := aindex_eq' Tryd.arr97
theorem Tryd.indexA97 {b o : Nat} {k : IntKind} {i : Int} : aindexAddr Tryd.prog 97 (.pointer (some ⟨b, o, none⟩)) (.int k i) = mkIndexA b o i (some (256, false, 1)) := aindexA_eq' Tryd.arr97
theorem Tryd.indexF97 {c : Array Value} {n : Nat} {k : IntKind} {i : Int} : aindexAddr Tryd.prog 97 (fp c n) (.int k i) = mkIndexF c n i (some (256, false, 1)) := aindexAddr_fp Tryd.arr97
theorem Tryd.sliceF97 {h : AH} {c : Array Value} {n : Nat} {lo hi : Option Value} : aslice Tryd.prog h 97 (fp c n) lo hi = mkSliceF c n lo hi (some (256, false, 1)) := aslice_fp Tryd.arr97
theorem Tryd.arrptrZ97 {c : Array Value} {n : Nat} : aarrayPtr Tryd.prog 97 (fz c n) = if 256 ≤ n ∧ 0 < n then some (fp c 0) else none := aarr_fz Tryd.arr97
theorem Tryd.lenA97 {h : AH} {x : Value} : alen Tryd.prog h 97 x = some (.int .i64 256) := alenA_eq' Tryd.arr97
theorem Tryd.sliceA97 {h : AH} {b o : Nat} {lo hi : Option Value} : aslice Tryd.prog h 97 (.pointer (some ⟨b, o, none⟩)) lo hi = mkSliceA b o lo hi (some (256, false, 1)) := asliceA_eq' Tryd.arr97
theorem Tryd.arrptr97 {b o l c : Nat} : aarrayPtr Tryd.prog 97 (.slice (some ⟨b, o, none⟩) l c) = mkArrPtr b o l (some (256, false, 1)) := aarr_eq' Tryd.arr97
theorem Tryd.buildA97 {ps : List (Nat × Value)} : abuild Tryd.prog 97 ps = mkBuildA ps (some ((Array.replicate 256 (Value.int IntKind.u8 (0))))) (some (256, false, 1)) := abuildA_eq' Tryd.zero97 Tryd.arr97
theorem Tryd.arr100 : arr Tryd.prog 100 = some (16, true, 2) := by kernel_rfl
theorem Tryd.index100 {c : Array Value} {k : IntKind} {i : Int} : aindex Tryd.prog 100 (.agg c) (.int k i) = mkIndex c i (some (16, true, 2)) := aindex_eq' Tryd.arr100
theorem Tryd.indexA100 {b o : Nat} {k : IntKind} {i : Int} : aindexAddr Tryd.prog 100 (.pointer (some ⟨b, o, none⟩)) (.int k i) = mkIndexA b o i (some (16, true, 2)) := aindexA_eq' Tryd.arr100
theorem Tryd.indexF100 {c : Array Value} {n : Nat} {k : IntKind} {i : Int} : aindexAddr Tryd.prog 100 (fp c n) (.int k i) = mkIndexF c n i (some (16, true, 2)) := aindexAddr_fp Tryd.arr100
theorem Tryd.sliceF100 {h : AH} {c : Array Value} {n : Nat} {lo hi : Option Value} : aslice Tryd.prog h 100 (fp c n) lo hi = mkSliceF c n lo hi (some (16, true, 2)) := aslice_fp Tryd.arr100
theorem Tryd.arrptrZ100 {c : Array Value} {n : Nat} : aarrayPtr Tryd.prog 100 (fz c n) = if 16 ≤ n ∧ 0 < n then some (fp c 0) else none := aarr_fz Tryd.arr100
theorem Tryd.lenA100 {h : AH} {x : Value} : alen Tryd.prog h 100 x = some (.int .i64 16) := alenA_eq' Tryd.arr100
theorem Tryd.sliceA100 {h : AH} {b o : Nat} {lo hi : Option Value} : aslice Tryd.prog h 100 (.pointer (some ⟨b, o, none⟩)) lo hi = mkSliceA b o lo hi (some (16, true, 2)) := asliceA_eq' Tryd.arr100
theorem Tryd.arrptr100 {b o l c : Nat} : aarrayPtr Tryd.prog 100 (.slice (some ⟨b, o, none⟩) l c) = mkArrPtr b o l (some (16, true, 2)) := aarr_eq' Tryd.arr100
theorem Tryd.buildA100 {ps : List (Nat × Value)} : abuild Tryd.prog 100 ps = mkBuildA ps (some ((Array.replicate 32 (Value.int IntKind.u8 (0))))) (some (16, true, 2)) := abuildA_eq' Tryd.zero100 Tryd.arr100
theorem Tryd.arr107 : arr Tryd.prog 107 = some (0, false, 1) := by kernel_rfl
theorem Tryd.index107 {c : Array Value} {k : IntKind} {i : Int} : aindex Tryd.prog 107 (.agg c) (.int k i) = mkIndex c i (some (0, false, 1)) := aindex_eq' Tryd.arr107
theorem Tryd.indexA107 {b o : Nat} {k : IntKind} {i : Int} : aindexAddr Tryd.prog 107 (.pointer (some ⟨b, o, none⟩)) (.int k i) = mkIndexA b o i (some (0, false, 1)) := aindexA_eq' Tryd.arr107
theorem Tryd.indexF107 {c : Array Value} {n : Nat} {k : IntKind} {i : Int} : aindexAddr Tryd.prog 107 (fp c n) (.int k i) = mkIndexF c n i (some (0, false, 1)) := aindexAddr_fp Tryd.arr107
theorem Tryd.sliceF107 {h : AH} {c : Array Value} {n : Nat} {lo hi : Option Value} : aslice Tryd.prog h 107 (fp c n) lo hi = mkSliceF c n lo hi (some (0, false, 1)) := aslice_fp Tryd.arr107
theorem Tryd.arrptrZ107 {c : Array Value} {n : Nat} : aarrayPtr Tryd.prog 107 (fz c n) = if 0 ≤ n ∧ 0 < n then some (fp c 0) else none := aarr_fz Tryd.arr107
theorem Tryd.lenA107 {h : AH} {x : Value} : alen Tryd.prog h 107 x = some (.int .i64 0) := alenA_eq' Tryd.arr107
theorem Tryd.sliceA107 {h : AH} {b o : Nat} {lo hi : Option Value} : aslice Tryd.prog h 107 (.pointer (some ⟨b, o, none⟩)) lo hi = mkSliceA b o lo hi (some (0, false, 1)) := asliceA_eq' Tryd.arr107
theorem Tryd.arrptr107 {b o l c : Nat} : aarrayPtr Tryd.prog 107 (.slice (some ⟨b, o, none⟩) l c) = mkArrPtr b o l (some (0, false, 1)) := aarr_eq' Tryd.arr107
theorem Tryd.slc22 : slc Tryd.prog 22 = some (false, 1, 1) := by kernel_rfl
theorem Tryd.indexS22 {b o l c : Nat} {k : IntKind} {i : Int} : aindexAddr Tryd.prog 22 (.slice (some ⟨b, o, none⟩) l c) (.int k i) = mkIndexS b o l i (some (false, 1, 1)) := aindexS_eq' Tryd.slc22
theorem Tryd.indexZ22 {c : Array Value} {n : Nat} {k : IntKind} {i : Int} : aindexAddr Tryd.prog 22 (fz c n) (.int k i) = mkIndexZ c n i (some (false, 1, 1)) := aindexAddr_fz Tryd.slc22
theorem Tryd.indexV22 {α : Type} {enc : α → List Value} {s : Sl α} {k : IntKind} {i : Int} : aindexAddr Tryd.prog 22 (slV enc s) (.int k i) = mkIndexZ (flatV enc s.l) s.l.length i (some (false, 1, 1)) := aindex_slV Tryd.slc22
theorem Tryd.lenZ22 {h : AH} {c : Array Value} {n : Nat} : alen Tryd.prog h 22 (fz c n) = some (.int .i64 n) := alen_fz Tryd.slc22
theorem Tryd.lenV22 {h : AH} {α : Type} {enc : α → List Value} {s : Sl α} : alen Tryd.prog h 22 (slV enc s) = some (.int .i64 (s.l.length : Nat)) := alen_slV Tryd.slc22
theorem Tryd.lenO22 {h : AH} {α : Type} {l : List α} {b : Nat} : alen Tryd.prog h 22 (outV b l) = some (.int .i64 (l.length : Nat)) := alen_outV Tryd.slc22
theorem Tryd.indexO22 {α : Type} {l : List α} {b : Nat} {k : IntKind} {i : Int} : aindexAddr Tryd.prog 22 (outV b l) (.int k i) = if 0 ≤ i ∧ i < l.length then some (.pointer (some ⟨b, i.toNat * 1, none⟩)) else none := aindex_outV Tryd.slc22
theorem Tryd.sliceV22 {h : AH} {α : Type} {enc : α → List Value} {s : Sl α} {lo hi : Option Value} (hm : ∀ x, (enc x).length = 1) : aslice Tryd.prog h 22 (slV enc s) lo hi = (abounds s.l.length s.l.length lo hi).map fun p => slV enc (s.piece p.1 p.2) := aslice_slV Tryd.slc22 hm
theorem Tryd.sliceZ22 {h : AH} {c : Array Value} {n : Nat} {lo hi : Option Value} : aslice Tryd.prog h 22 (fz c n) lo hi = mkSliceZ c n lo hi (some (false, 1, 1)) := aslice_fz Tryd.slc22
theorem Tryd.len22 {h : AH} {a : Option Addr} {l c : Nat} : alen Tryd.prog h 22 (.slice a l c) = some (.int .i64 l) := alen_eq' Tryd.slc22
theorem Tryd.sliceS22 {h : AH} {b o l c : Nat} {lo hi : Option Value} : aslice Tryd.prog h 22 (.slice (some ⟨b, o, none⟩) l c) lo hi = mkSliceS b o l c lo hi (some (false, 1, 1)) h[b]? := asliceS_eq' Tryd.slc22
theorem Tryd.sliceN22 {h : AH} {lo hi : Option Value} : aslice Tryd.prog h 22 (.slice none 0 0) lo hi = (abounds 0 0 lo hi).map fun _ => .slice none 0 0 := asliceN_eq' Tryd.slc22
theorem Tryd.slz22 : slz Tryd.prog 22 = some (#[Value.int IntKind.u8 (0)]) := by kernel_rfl
theorem Tryd.buildS22 {h : AH} {n : Nat} {ps : List (Nat × Value)} : abuildSlice Tryd.prog h 22 n ps = mkBuildS h n ps (some (#[Value.int IntKind.u8 (0)])) := abuildS_eq' Tryd.slz22
theorem Tryd.make22 {h : AH} {i n : Int} : amakeSlice Tryd.prog h 22 (.int .i64 i) (.int .i64 n) = mkMake h i n (some (false, 1, 1)) (some (#[Value.int IntKind.u8 (0)])) := amake_eq' Tryd.slc22 Tryd.slz22
theorem Tryd.append22 {h : AH} {u : TypeId} {s x : Value} (hn : nint Tryd.prog u = true) : aappend Tryd.prog h 22 u s x = orT (mkApp h s (some (false, 1, 1)) (mkSrc h x (some (false, 1, 1)) true)) (aappendT Tryd.prog h 22 u s x) := aappend_eq' Tryd.slc22 Tryd.slz22 hn
theorem Tryd.slc64 : slc Tryd.prog 64 = some (false, 1, 8) := by kernel_rfl
theorem Tryd.indexS64 {b o l c : Nat} {k : IntKind} {i : Int} : aindexAddr Tryd.prog 64 (.slice (some ⟨b, o, none⟩) l c) (.int k i) = mkIndexS b o l i (some (false, 1, 8)) := aindexS_eq' Tryd.slc64
theorem Tryd.indexZ64 {c : Array Value} {n : Nat} {k : IntKind} {i : Int} : aindexAddr Tryd.prog 64 (fz c n) (.int k i) = mkIndexZ c n i (some (false, 1, 8)) := aindexAddr_fz Tryd.slc64
theorem Tryd.indexV64 {α : Type} {enc : α → List Value} {s : Sl α} {k : IntKind} {i : Int} : aindexAddr Tryd.prog 64 (slV enc s) (.int k i) = mkIndexZ (flatV enc s.l) s.l.length i (some (false, 1, 8)) := aindex_slV Tryd.slc64
theorem Tryd.lenZ64 {h : AH} {c : Array Value} {n : Nat} : alen Tryd.prog h 64 (fz c n) = some (.int .i64 n) := alen_fz Tryd.slc64
theorem Tryd.lenV64 {h : AH} {α : Type} {enc : α → List Value} {s : Sl α} : alen Tryd.prog h 64 (slV enc s) = some (.int .i64 (s.l.length : Nat)) := alen_slV Tryd.slc64
theorem Tryd.lenO64 {h : AH} {α : Type} {l : List α} {b : Nat} : alen Tryd.prog h 64 (outV b l) = some (.int .i64 (l.length : Nat)) := alen_outV Tryd.slc64
theorem Tryd.indexO64 {α : Type} {l : List α} {b : Nat} {k : IntKind} {i : Int} : aindexAddr Tryd.prog 64 (outV b l) (.int k i) = if 0 ≤ i ∧ i < l.length then some (.pointer (some ⟨b, i.toNat * 1, none⟩)) else none := aindex_outV Tryd.slc64
theorem Tryd.sliceV64 {h : AH} {α : Type} {enc : α → List Value} {s : Sl α} {lo hi : Option Value} (hm : ∀ x, (enc x).length = 1) : aslice Tryd.prog h 64 (slV enc s) lo hi = (abounds s.l.length s.l.length lo hi).map fun p => slV enc (s.piece p.1 p.2) := aslice_slV Tryd.slc64 hm
theorem Tryd.sliceZ64 {h : AH} {c : Array Value} {n : Nat} {lo hi : Option Value} : aslice Tryd.prog h 64 (fz c n) lo hi = mkSliceZ c n lo hi (some (false, 1, 8)) := aslice_fz Tryd.slc64
theorem Tryd.len64 {h : AH} {a : Option Addr} {l c : Nat} : alen Tryd.prog h 64 (.slice a l c) = some (.int .i64 l) := alen_eq' Tryd.slc64
theorem Tryd.sliceS64 {h : AH} {b o l c : Nat} {lo hi : Option Value} : aslice Tryd.prog h 64 (.slice (some ⟨b, o, none⟩) l c) lo hi = mkSliceS b o l c lo hi (some (false, 1, 8)) h[b]? := asliceS_eq' Tryd.slc64
theorem Tryd.sliceN64 {h : AH} {lo hi : Option Value} : aslice Tryd.prog h 64 (.slice none 0 0) lo hi = (abounds 0 0 lo hi).map fun _ => .slice none 0 0 := asliceN_eq' Tryd.slc64
theorem Tryd.slz64 : slz Tryd.prog 64 = some (#[Value.int IntKind.i64 (0)]) := by kernel_rfl
theorem Tryd.buildS64 {h : AH} {n : Nat} {ps : List (Nat × Value)} : abuildSlice Tryd.prog h 64 n ps = mkBuildS h n ps (some (#[Value.int IntKind.i64 (0)])) := abuildS_eq' Tryd.slz64
theorem Tryd.make64 {h : AH} {i n : Int} : amakeSlice Tryd.prog h 64 (.int .i64 i) (.int .i64 n) = mkMake h i n (some (false, 1, 8)) (some (#[Value.int IntKind.i64 (0)])) := amake_eq' Tryd.slc64 Tryd.slz64
theorem Tryd.append64 {h : AH} {u : TypeId} {s x : Value} (hn : nint Tryd.prog u = true) : aappend Tryd.prog h 64 u s x = orT (mkApp h s (some (false, 1, 8)) (mkSrc h x (some (false, 1, 8)) true)) (aappendT Tryd.prog h 64 u s x) := aappend_eq' Tryd.slc64 Tryd.slz64 hn
theorem Tryd.intk2 : intk Tryd.prog 2 = some IntKind.i64 := by kernel_rfl
theorem Tryd.conv2 {h : AH} {u : TypeId} {k : IntKind} {n : Int} (hs : (tyc Tryd.prog u).isSome = true) : aconvert Tryd.prog h u 2 (.int k n) = some (.int IntKind.i64 (IntKind.i64.wrap n), h) := aconvI_eq' Tryd.intk2 hs
theorem Tryd.intk3 : intk Tryd.prog 3 = some IntKind.i64 := by kernel_rfl
theorem Tryd.conv3 {h : AH} {u : TypeId} {k : IntKind} {n : Int} (hs : (tyc Tryd.prog u).isSome = true) : aconvert Tryd.prog h u 3 (.int k n) = some (.int IntKind.i64 (IntKind.i64.wrap n), h) := aconvI_eq' Tryd.intk3 hs
theorem Tryd.intk5 : intk Tryd.prog 5 = some IntKind.u8 := by kernel_rfl
theorem Tryd.conv5 {h : AH} {u : TypeId} {k : IntKind} {n : Int} (hs : (tyc Tryd.prog u).isSome = true) : aconvert Tryd.prog h u 5 (.int k n) = some (.int IntKind.u8 (IntKind.u8.wrap n), h) := aconvI_eq' Tryd.intk5 hs
theorem Tryd.intk6 : intk Tryd.prog 6 = some IntKind.u8 := by kernel_rfl
theorem Tryd.conv6 {h : AH} {u : TypeId} {k : IntKind} {n : Int} (hs : (tyc Tryd.prog u).isSome = true) : aconvert Tryd.prog h u 6 (.int k n) = some (.int IntKind.u8 (IntKind.u8.wrap n), h) := aconvI_eq' Tryd.intk6 hs
theorem Tryd.intk12 : intk Tryd.prog 12 = some IntKind.u64 := by kernel_rfl
theorem Tryd.conv12 {h : AH} {u : TypeId} {k : IntKind} {n : Int} (hs : (tyc Tryd.prog u).isSome = true) : aconvert Tryd.prog h u 12 (.int k n) = some (.int IntKind.u64 (IntKind.u64.wrap n), h) := aconvI_eq' Tryd.intk12 hs
theorem Tryd.intk21 : intk Tryd.prog 21 = some IntKind.i32 := by kernel_rfl
theorem Tryd.conv21 {h : AH} {u : TypeId} {k : IntKind} {n : Int} (hs : (tyc Tryd.prog u).isSome = true) : aconvert Tryd.prog h u 21 (.int k n) = some (.int IntKind.i32 (IntKind.i32.wrap n), h) := aconvI_eq' Tryd.intk21 hs
theorem Tryd.intk23 : intk Tryd.prog 23 = some IntKind.u64 := by kernel_rfl
theorem Tryd.conv23 {h : AH} {u : TypeId} {k : IntKind} {n : Int} (hs : (tyc Tryd.prog u).isSome = true) : aconvert Tryd.prog h u 23 (.int k n) = some (.int IntKind.u64 (IntKind.u64.wrap n), h) := aconvI_eq' Tryd.intk23 hs
theorem Tryd.intk30 : intk Tryd.prog 30 = some IntKind.u16 := by kernel_rfl
theorem Tryd.conv30 {h : AH} {u : TypeId} {k : IntKind} {n : Int} (hs : (tyc Tryd.prog u).isSome = true) : aconvert Tryd.prog h u 30 (.int k n) = some (.int IntKind.u16 (IntKind.u16.wrap n), h) := aconvI_eq' Tryd.intk30 hs
theorem Tryd.intk31 : intk Tryd.prog 31 = some IntKind.u16 := by kernel_rfl
theorem Tryd.conv31 {h : AH} {u : TypeId} {k : IntKind} {n : Int} (hs : (tyc Tryd.prog u).isSome = true) : aconvert Tryd.prog h u 31 (.int k n) = some (.int IntKind.u16 (IntKind.u16.wrap n), h) := aconvI_eq' Tryd.intk31 hs
theorem Tryd.intk57 : intk Tryd.prog 57 = some IntKind.u64 := by kernel_rfl
theorem Tryd.conv57 {h : AH} {u : TypeId} {k : IntKind} {n : Int} (hs : (tyc Tryd.prog u).isSome = true) : aconvert Tryd.prog h u 57 (.int k n) = some (.int IntKind.u64 (IntKind.u64.wrap n), h) := aconvI_eq' Tryd.intk57 hs
theorem Tryd.intk111 : intk Tryd.prog 111 = some IntKind.u32 := by kernel_rfl
theorem Tryd.conv111 {h : AH} {u : TypeId} {k : IntKind} {n : Int} (hs : (tyc Tryd.prog u).isSome = true) : aconvert Tryd.prog h u 111 (.int k n) = some (.int IntKind.u32 (IntKind.u32.wrap n), h) := aconvI_eq' Tryd.intk111 hs
theorem Tryd.intk112 : intk Tryd.prog 112 = some IntKind.u8 := by kernel_rfl
theorem Tryd.conv112 {h : AH} {u : TypeId} {k : IntKind} {n : Int} (hs : (tyc Tryd.prog u).isSome = true) : aconvert Tryd.prog h u 112 (.int k n) = some (.int IntKind.u8 (IntKind.u8.wrap n), h) := aconvI_eq' Tryd.intk112 hs
theorem Tryd.intk113 : intk Tryd.prog 113 = some IntKind.u8 := by kernel_rfl
theorem Tryd.conv113 {h : AH} {u : TypeId} {k : IntKind} {n : Int} (hs : (tyc Tryd.prog u).isSome = true) : aconvert Tryd.prog h u 113 (.int k n) = some (.int IntKind.u8 (IntKind.u8.wrap n), h) := aconvI_eq' Tryd.intk113 hs
theorem Tryd.intk115 : intk Tryd.prog 115 = some IntKind.i32 := by kernel_rfl
theorem Tryd.conv115 {h : AH} {u : TypeId} {k : IntKind} {n : Int} (hs : (tyc Tryd.prog u).isSome = true) : aconvert Tryd.prog h u 115 (.int k n) = some (.int IntKind.i32 (IntKind.i32.wrap n), h) := aconvI_eq' Tryd.intk115 hs
theorem Tryd.intk116 : intk Tryd.prog 116 = some IntKind.i32 := by kernel_rfl
theorem Tryd.conv116 {h : AH} {u : TypeId} {k : IntKind} {n : Int} (hs : (tyc Tryd.prog u).isSome = true) : aconvert Tryd.prog h u 116 (.int k n) = some (.int IntKind.i32 (IntKind.i32.wrap n), h) := aconvI_eq' Tryd.intk116 hs
theorem Tryd.nint9 : nint Tryd.prog 9 = true := by kernel_rfl
theorem Tryd.nint10 : nint Tryd.prog 10 = true := by kernel_rfl
theorem Tryd.nint11 : nint Tryd.prog 11 = true := by kernel_rfl
theorem Tryd.nint22 : nint Tryd.prog 22 = true := by kernel_rfl
theorem Tryd.nint64 : nint Tryd.prog 64 = true := by kernel_rfl
theorem Tryd.isStr9 : isStr Tryd.prog 9 = true := by kernel_rfl
theorem Tryd.lenT9 {h : AH} {s : ByteArray} : alen Tryd.prog h 9 (.string s) = some (.int .i64 s.size) := alenT_eq' Tryd.isStr9
theorem Tryd.sliceT9 {h : AH} {s : ByteArray} {lo hi : Option Value} : aslice Tryd.prog h 9 (.string s) lo hi = mkSliceT s lo hi true := asliceT_eq' Tryd.isStr9
theorem Tryd.isStr10 : isStr Tryd.prog 10 = true := by kernel_rfl
theorem Tryd.lenT10 {h : AH} {s : ByteArray} : alen Tryd.prog h 10 (.string s) = some (.int .i64 s.size) := alenT_eq' Tryd.isStr10
theorem Tryd.sliceT10 {h : AH} {s : ByteArray} {lo hi : Option Value} : aslice Tryd.prog h 10 (.string s) lo hi = mkSliceT s lo hi true := asliceT_eq' Tryd.isStr10
theorem Tryd.isStr11 : isStr Tryd.prog 11 = true := by kernel_rfl
theorem Tryd.lenT11 {h : AH} {s : ByteArray} : alen Tryd.prog h 11 (.string s) = some (.int .i64 s.size) := alenT_eq' Tryd.isStr11
theorem Tryd.sliceT11 {h : AH} {s : ByteArray} {lo hi : Option Value} : aslice Tryd.prog h 11 (.string s) lo hi = mkSliceT s lo hi true := asliceT_eq' Tryd.isStr11
theorem Tryd.isBool4 : isBool Tryd.prog 4 = true := by kernel_rfl
theorem Tryd.eqlB4 {x y : Operand} {a b : Bool} : abinOp Tryd.prog .eql 4 x y (.bool a) (.bool b) = some (.bool (a == b)) := abin_eqlB (isBool_u Tryd.isBool4) a b
theorem Tryd.neqB4 {x y : Operand} {a b : Bool} : abinOp Tryd.prog .neq 4 x y (.bool a) (.bool b) = some (.bool (!(a == b))) := abin_neqB (isBool_u Tryd.isBool4) a b
theorem Tryd.rowK24 : rowK Tryd.prog 24 = some (4, IntKind.u64) := by kernel_rfl
theorem Tryd.eqlR24 {x y : Operand} {a b : Word4} : abinOp Tryd.prog .eql 24 x y (.agg (encWord a).toArray) (.agg (encWord b).toArray) = some (.bool (decide (a = b))) := abin_eqlWord Tryd.rowK24 a b
theorem Tryd.neqR24 {x y : Operand} {a b : Word4} : abinOp Tryd.prog .neq 24 x y (.agg (encWord a).toArray) (.agg (encWord b).toArray) = some (.bool (!decide (a = b))) := abin_neqWord Tryd.rowK24 a b
theorem Tryd.rowK25 : rowK Tryd.prog 25 = some (4, IntKind.u64) := by kernel_rfl
theorem Tryd.eqlR25 {x y : Operand} {a b : Word4} : abinOp Tryd.prog .eql 25 x y (.agg (encWord a).toArray) (.agg (encWord b).toArray) = some (.bool (decide (a = b))) := abin_eqlWord Tryd.rowK25 a b
theorem Tryd.neqR25 {x y : Operand} {a b : Word4} : abinOp Tryd.prog .neq 25 x y (.agg (encWord a).toArray) (.agg (encWord b).toArray) = some (.bool (!decide (a = b))) := abin_neqWord Tryd.rowK25 a b
theorem Tryd.rowK40 : rowK Tryd.prog 40 = some (20, IntKind.u8) := by kernel_rfl
theorem Tryd.eqlR40 {x y : Operand} {a b : Addr20} : abinOp Tryd.prog .eql 40 x y (.agg (encAddr a).toArray) (.agg (encAddr b).toArray) = some (.bool (decide (a = b))) := abin_eqlAddr Tryd.rowK40 a b
theorem Tryd.neqR40 {x y : Operand} {a b : Addr20} : abinOp Tryd.prog .neq 40 x y (.agg (encAddr a).toArray) (.agg (encAddr b).toArray) = some (.bool (!decide (a = b))) := abin_neqAddr Tryd.rowK40 a b
theorem Tryd.rowK41 : rowK Tryd.prog 41 = some (20, IntKind.u8) := by kernel_rfl
theorem Tryd.eqlR41 {x y : Operand} {a b : Addr20} : abinOp Tryd.prog .eql 41 x y (.agg (encAddr a).toArray) (.agg (encAddr b).toArray) = some (.bool (decide (a = b))) := abin_eqlAddr Tryd.rowK41 a b
theorem Tryd.neqR41 {x y : Operand} {a b : Addr20} : abinOp Tryd.prog .neq 41 x y (.agg (encAddr a).toArray) (.agg (encAddr b).toArray) = some (.bool (!decide (a = b))) := abin_neqAddr Tryd.rowK41 a b
theorem Tryd.hb2 : hasBody Tryd.prog 2 = true := by kernel_rfl
theorem Tryd.hb3 : hasBody Tryd.prog 3 = true := by kernel_rfl
theorem Tryd.hb4 : hasBody Tryd.prog 4 = true := by kernel_rfl
theorem Tryd.hb5 : hasBody Tryd.prog 5 = true := by kernel_rfl
theorem Tryd.hb6 : hasBody Tryd.prog 6 = true := by kernel_rfl
theorem Tryd.hb7 : hasBody Tryd.prog 7 = true := by kernel_rfl
theorem Tryd.hb8 : hasBody Tryd.prog 8 = true := by kernel_rfl
theorem Tryd.hb9 : hasBody Tryd.prog 9 = true := by kernel_rfl
theorem Tryd.hb10 : hasBody Tryd.prog 10 = true := by kernel_rfl
theorem Tryd.hb11 : hasBody Tryd.prog 11 = true := by kernel_rfl
theorem Tryd.hb12 : hasBody Tryd.prog 12 = true := by kernel_rfl
theorem Tryd.hb13 : hasBody Tryd.prog 13 = true := by kernel_rfl
theorem Tryd.hb14 : hasBody Tryd.prog 14 = true := by kernel_rfl
theorem Tryd.hb15 : hasBody Tryd.prog 15 = true := by kernel_rfl
theorem Tryd.hb16 : hasBody Tryd.prog 16 = true := by kernel_rfl
theorem Tryd.hb17 : hasBody Tryd.prog 17 = true := by kernel_rfl
theorem Tryd.hb18 : hasBody Tryd.prog 18 = true := by kernel_rfl
theorem Tryd.hb19 : hasBody Tryd.prog 19 = true := by kernel_rfl
theorem Tryd.hb20 : hasBody Tryd.prog 20 = true := by kernel_rfl
theorem Tryd.hb21 : hasBody Tryd.prog 21 = true := by kernel_rfl
theorem Tryd.hb22 : hasBody Tryd.prog 22 = true := by kernel_rfl
theorem Tryd.hb23 : hasBody Tryd.prog 23 = true := by kernel_rfl
theorem Tryd.hb24 : hasBody Tryd.prog 24 = true := by kernel_rfl
theorem Tryd.hb25 : hasBody Tryd.prog 25 = true := by kernel_rfl
theorem Tryd.hb26 : hasBody Tryd.prog 26 = true := by kernel_rfl
theorem Tryd.hb27 : hasBody Tryd.prog 27 = true := by kernel_rfl
theorem Tryd.hb28 : hasBody Tryd.prog 28 = true := by kernel_rfl
theorem Tryd.hb29 : hasBody Tryd.prog 29 = true := by kernel_rfl
theorem Tryd.hb30 : hasBody Tryd.prog 30 = true := by kernel_rfl
theorem Tryd.hb31 : hasBody Tryd.prog 31 = true := by kernel_rfl
theorem Tryd.hb32 : hasBody Tryd.prog 32 = true := by kernel_rfl
theorem Tryd.hb33 : hasBody Tryd.prog 33 = true := by kernel_rfl
theorem Tryd.hb34 : hasBody Tryd.prog 34 = true := by kernel_rfl
theorem Tryd.hb35 : hasBody Tryd.prog 35 = true := by kernel_rfl
theorem Tryd.hb36 : hasBody Tryd.prog 36 = true := by kernel_rfl
theorem Tryd.hb37 : hasBody Tryd.prog 37 = true := by kernel_rfl
theorem Tryd.hb38 : hasBody Tryd.prog 38 = true := by kernel_rfl
theorem Tryd.hb39 : hasBody Tryd.prog 39 = true := by kernel_rfl
theorem Tryd.hb40 : hasBody Tryd.prog 40 = true := by kernel_rfl
theorem Tryd.hb41 : hasBody Tryd.prog 41 = true := by kernel_rfl
theorem Tryd.hb42 : hasBody Tryd.prog 42 = true := by kernel_rfl
theorem Tryd.hb44 : hasBody Tryd.prog 44 = true := by kernel_rfl
theorem Tryd.hb45 : hasBody Tryd.prog 45 = true := by kernel_rfl
theorem Tryd.hb46 : hasBody Tryd.prog 46 = true := by kernel_rfl
theorem Tryd.hb47 : hasBody Tryd.prog 47 = true := by kernel_rfl
theorem Tryd.hb48 : hasBody Tryd.prog 48 = true := by kernel_rfl
theorem Tryd.hb49 : hasBody Tryd.prog 49 = true := by kernel_rfl
theorem Tryd.hb50 : hasBody Tryd.prog 50 = true := by kernel_rfl
theorem Tryd.hb51 : hasBody Tryd.prog 51 = true := by kernel_rfl
theorem Tryd.hb52 : hasBody Tryd.prog 52 = true := by kernel_rfl
theorem Tryd.hb53 : hasBody Tryd.prog 53 = true := by kernel_rfl
theorem Tryd.hb54 : hasBody Tryd.prog 54 = true := by kernel_rfl
theorem Tryd.hb55 : hasBody Tryd.prog 55 = true := by kernel_rfl
theorem Tryd.hb56 : hasBody Tryd.prog 56 = true := by kernel_rfl
theorem Tryd.hb58 : hasBody Tryd.prog 58 = true := by kernel_rfl
theorem Tryd.hb82 : hasBody Tryd.prog 82 = true := by kernel_rfl
attribute [go_sem] Tryd.load0 Tryd.loadF0 Tryd.store0 Tryd.some0 Tryd.load1 Tryd.loadF1 Tryd.store1 Tryd.some1 Tryd.load2 Tryd.loadF2 Tryd.store2 Tryd.some2 Tryd.load3 Tryd.loadF3 Tryd.store3 Tryd.some3 Tryd.load4 Tryd.loadF4 Tryd.store4 Tryd.some4 Tryd.load5 Tryd.loadF5 Tryd.store5 Tryd.some5 Tryd.load6 Tryd.loadF6 Tryd.store6 Tryd.some6 Tryd.load7 Tryd.loadF7 Tryd.store7 Tryd.some7 Tryd.load8 Tryd.loadF8 Tryd.store8 Tryd.some8 Tryd.load9 Tryd.loadF9 Tryd.store9 Tryd.some9
attribute [go_sem] Tryd.load10 Tryd.loadF10 Tryd.store10 Tryd.some10 Tryd.load11 Tryd.loadF11 Tryd.store11 Tryd.some11 Tryd.load12 Tryd.loadF12 Tryd.store12 Tryd.some12 Tryd.load13 Tryd.loadF13 Tryd.store13 Tryd.some13 Tryd.load14 Tryd.loadF14 Tryd.store14 Tryd.some14 Tryd.load15 Tryd.loadF15 Tryd.store15 Tryd.some15 Tryd.load16 Tryd.loadF16 Tryd.store16 Tryd.some16 Tryd.load17 Tryd.loadF17 Tryd.store17 Tryd.some17 Tryd.load18 Tryd.loadF18 Tryd.store18 Tryd.some18 Tryd.load19 Tryd.loadF19 Tryd.store19 Tryd.some19
attribute [go_sem] Tryd.load20 Tryd.loadF20 Tryd.store20 Tryd.some20 Tryd.load21 Tryd.loadF21 Tryd.store21 Tryd.some21 Tryd.load22 Tryd.loadF22 Tryd.store22 Tryd.some22 Tryd.load23 Tryd.loadF23 Tryd.store23 Tryd.some23 Tryd.load24 Tryd.loadF24 Tryd.store24 Tryd.some24 Tryd.load25 Tryd.loadF25 Tryd.store25 Tryd.some25 Tryd.load26 Tryd.loadF26 Tryd.store26 Tryd.some26 Tryd.load27 Tryd.loadF27 Tryd.store27 Tryd.some27 Tryd.load28 Tryd.loadF28 Tryd.store28 Tryd.some28 Tryd.load29 Tryd.loadF29 Tryd.store29 Tryd.some29
attribute [go_sem] Tryd.load30 Tryd.loadF30 Tryd.store30 Tryd.some30 Tryd.load31 Tryd.loadF31 Tryd.store31 Tryd.some31 Tryd.load32 Tryd.loadF32 Tryd.store32 Tryd.some32 Tryd.load33 Tryd.loadF33 Tryd.store33 Tryd.some33 Tryd.load34 Tryd.loadF34 Tryd.store34 Tryd.some34 Tryd.load35 Tryd.loadF35 Tryd.store35 Tryd.some35 Tryd.load36 Tryd.loadF36 Tryd.store36 Tryd.some36 Tryd.load37 Tryd.loadF37 Tryd.store37 Tryd.some37 Tryd.load38 Tryd.loadF38 Tryd.store38 Tryd.some38 Tryd.load39 Tryd.loadF39 Tryd.store39 Tryd.some39
attribute [go_sem] Tryd.load40 Tryd.loadF40 Tryd.store40 Tryd.some40 Tryd.load41 Tryd.loadF41 Tryd.store41 Tryd.some41 Tryd.load42 Tryd.loadF42 Tryd.store42 Tryd.some42 Tryd.load43 Tryd.loadF43 Tryd.store43 Tryd.some43 Tryd.load44 Tryd.loadF44 Tryd.store44 Tryd.some44 Tryd.load45 Tryd.loadF45 Tryd.store45 Tryd.some45 Tryd.load46 Tryd.loadF46 Tryd.store46 Tryd.some46 Tryd.load47 Tryd.loadF47 Tryd.store47 Tryd.some47 Tryd.load48 Tryd.loadF48 Tryd.store48 Tryd.some48 Tryd.load49 Tryd.loadF49 Tryd.store49 Tryd.some49
attribute [go_sem] Tryd.load50 Tryd.loadF50 Tryd.store50 Tryd.some50 Tryd.load51 Tryd.loadF51 Tryd.store51 Tryd.some51 Tryd.load52 Tryd.loadF52 Tryd.store52 Tryd.some52 Tryd.load53 Tryd.loadF53 Tryd.store53 Tryd.some53 Tryd.load54 Tryd.loadF54 Tryd.store54 Tryd.some54 Tryd.load55 Tryd.loadF55 Tryd.store55 Tryd.some55 Tryd.load56 Tryd.loadF56 Tryd.store56 Tryd.some56 Tryd.load57 Tryd.loadF57 Tryd.store57 Tryd.some57 Tryd.load58 Tryd.loadF58 Tryd.store58 Tryd.some58 Tryd.load59 Tryd.loadF59 Tryd.store59 Tryd.some59
attribute [go_sem] Tryd.load60 Tryd.loadF60 Tryd.store60 Tryd.some60 Tryd.load61 Tryd.loadF61 Tryd.store61 Tryd.some61 Tryd.load62 Tryd.loadF62 Tryd.store62 Tryd.some62 Tryd.load63 Tryd.loadF63 Tryd.store63 Tryd.some63 Tryd.load64 Tryd.loadF64 Tryd.store64 Tryd.some64 Tryd.load65 Tryd.loadF65 Tryd.store65 Tryd.some65 Tryd.load66 Tryd.loadF66 Tryd.store66 Tryd.some66 Tryd.load67 Tryd.loadF67 Tryd.store67 Tryd.some67 Tryd.load68 Tryd.loadF68 Tryd.store68 Tryd.some68 Tryd.load69 Tryd.loadF69 Tryd.store69 Tryd.some69
attribute [go_sem] Tryd.load70 Tryd.loadF70 Tryd.store70 Tryd.some70 Tryd.load71 Tryd.loadF71 Tryd.store71 Tryd.some71 Tryd.load72 Tryd.loadF72 Tryd.store72 Tryd.some72 Tryd.load73 Tryd.loadF73 Tryd.store73 Tryd.some73 Tryd.load74 Tryd.loadF74 Tryd.store74 Tryd.some74 Tryd.load75 Tryd.loadF75 Tryd.store75 Tryd.some75 Tryd.load76 Tryd.loadF76 Tryd.store76 Tryd.some76 Tryd.load77 Tryd.loadF77 Tryd.store77 Tryd.some77 Tryd.load78 Tryd.loadF78 Tryd.store78 Tryd.some78 Tryd.load79 Tryd.loadF79 Tryd.store79 Tryd.some79
attribute [go_sem] Tryd.load80 Tryd.loadF80 Tryd.store80 Tryd.some80 Tryd.load81 Tryd.loadF81 Tryd.store81 Tryd.some81 Tryd.load82 Tryd.loadF82 Tryd.store82 Tryd.some82 Tryd.load83 Tryd.loadF83 Tryd.store83 Tryd.some83 Tryd.load84 Tryd.loadF84 Tryd.store84 Tryd.some84 Tryd.load85 Tryd.loadF85 Tryd.store85 Tryd.some85 Tryd.load86 Tryd.loadF86 Tryd.store86 Tryd.some86 Tryd.load87 Tryd.loadF87 Tryd.store87 Tryd.some87 Tryd.load88 Tryd.loadF88 Tryd.store88 Tryd.some88 Tryd.load89 Tryd.loadF89 Tryd.store89 Tryd.some89
attribute [go_sem] Tryd.load90 Tryd.loadF90 Tryd.store90 Tryd.some90 Tryd.load91 Tryd.loadF91 Tryd.store91 Tryd.some91 Tryd.load92 Tryd.loadF92 Tryd.store92 Tryd.some92 Tryd.load93 Tryd.loadF93 Tryd.store93 Tryd.some93 Tryd.load94 Tryd.loadF94 Tryd.store94 Tryd.some94 Tryd.load95 Tryd.loadF95 Tryd.store95 Tryd.some95 Tryd.load96 Tryd.loadF96 Tryd.store96 Tryd.some96 Tryd.load97 Tryd.loadF97 Tryd.store97 Tryd.some97 Tryd.load98 Tryd.loadF98 Tryd.store98 Tryd.some98 Tryd.load99 Tryd.loadF99 Tryd.store99 Tryd.some99
attribute [go_sem] Tryd.load100 Tryd.loadF100 Tryd.store100 Tryd.some100 Tryd.load101 Tryd.loadF101 Tryd.store101 Tryd.some101 Tryd.load102 Tryd.loadF102 Tryd.store102 Tryd.some102 Tryd.load103 Tryd.loadF103 Tryd.store103 Tryd.some103 Tryd.load104 Tryd.loadF104 Tryd.store104 Tryd.some104 Tryd.load105 Tryd.loadF105 Tryd.store105 Tryd.some105 Tryd.load106 Tryd.loadF106 Tryd.store106 Tryd.some106 Tryd.load107 Tryd.loadF107 Tryd.store107 Tryd.some107 Tryd.load108 Tryd.loadF108 Tryd.store108 Tryd.some108 Tryd.load109 Tryd.loadF109 Tryd.store109 Tryd.some109
attribute [go_sem] Tryd.load110 Tryd.loadF110 Tryd.store110 Tryd.some110 Tryd.load111 Tryd.loadF111 Tryd.store111 Tryd.some111 Tryd.load112 Tryd.loadF112 Tryd.store112 Tryd.some112 Tryd.load113 Tryd.loadF113 Tryd.store113 Tryd.some113 Tryd.load114 Tryd.loadF114 Tryd.store114 Tryd.some114 Tryd.load115 Tryd.loadF115 Tryd.store115 Tryd.some115 Tryd.load116 Tryd.loadF116 Tryd.store116 Tryd.some116 Tryd.load117 Tryd.loadF117 Tryd.store117 Tryd.some117 Tryd.load118 Tryd.loadF118 Tryd.store118 Tryd.some118 Tryd.fieldAddr7_0 Tryd.fieldAddrF7_0 Tryd.field7_0 Tryd.fieldAddr7_1
attribute [go_sem] Tryd.fieldAddrF7_1 Tryd.field7_1 Tryd.fieldAddr7_2 Tryd.fieldAddrF7_2 Tryd.field7_2 Tryd.fieldAddr7_3 Tryd.fieldAddrF7_3 Tryd.field7_3 Tryd.fieldAddr8_0 Tryd.fieldAddrF8_0 Tryd.field8_0 Tryd.fieldAddr8_1 Tryd.fieldAddrF8_1 Tryd.field8_1 Tryd.fieldAddr8_2 Tryd.fieldAddrF8_2 Tryd.field8_2 Tryd.fieldAddr8_3 Tryd.fieldAddrF8_3 Tryd.field8_3 Tryd.fieldAddr13_0 Tryd.fieldAddrF13_0 Tryd.field13_0 Tryd.fieldAddr13_1 Tryd.fieldAddrF13_1 Tryd.field13_1 Tryd.fieldAddr14_0 Tryd.fieldAddrF14_0 Tryd.field14_0 Tryd.fieldAddr14_1 Tryd.fieldAddrF14_1 Tryd.field14_1 Tryd.fieldAddr18_0 Tryd.fieldAddrF18_0 Tryd.field18_0 Tryd.fieldAddr19_0 Tryd.fieldAddrF19_0 Tryd.field19_0 Tryd.fieldAddr50_0 Tryd.fieldAddrF50_0
attribute [go_sem] Tryd.field50_0 Tryd.fieldAddr50_1 Tryd.fieldAddrF50_1 Tryd.field50_1 Tryd.fieldAddr51_0 Tryd.fieldAddrF51_0 Tryd.field51_0 Tryd.fieldAddr51_1 Tryd.fieldAddrF51_1 Tryd.field51_1 Tryd.fieldAddr98_0 Tryd.fieldAddrF98_0 Tryd.field98_0 Tryd.fieldAddr98_1 Tryd.fieldAddrF98_1 Tryd.field98_1 Tryd.fieldAddr99_0 Tryd.fieldAddrF99_0 Tryd.field99_0 Tryd.fieldAddr99_1 Tryd.fieldAddrF99_1 Tryd.field99_1 Tryd.fieldAddr105_0 Tryd.fieldAddrF105_0 Tryd.field105_0 Tryd.fieldAddr105_1 Tryd.fieldAddrF105_1 Tryd.field105_1 Tryd.fieldAddr105_2 Tryd.fieldAddrF105_2 Tryd.field105_2 Tryd.fieldAddr105_3 Tryd.fieldAddrF105_3 Tryd.field105_3 Tryd.fieldAddr106_0 Tryd.fieldAddrF106_0 Tryd.field106_0 Tryd.fieldAddr106_1 Tryd.fieldAddrF106_1 Tryd.field106_1
attribute [go_sem] Tryd.fieldAddr106_2 Tryd.fieldAddrF106_2 Tryd.field106_2 Tryd.fieldAddr106_3 Tryd.fieldAddrF106_3 Tryd.field106_3 Tryd.fieldAddr108_0 Tryd.fieldAddrF108_0 Tryd.field108_0 Tryd.fieldAddr109_0 Tryd.fieldAddrF109_0 Tryd.field109_0 Tryd.fieldAddr117_0 Tryd.fieldAddrF117_0 Tryd.field117_0 Tryd.fieldAddr117_1 Tryd.fieldAddrF117_1 Tryd.field117_1 Tryd.fieldAddr117_2 Tryd.fieldAddrF117_2 Tryd.field117_2 Tryd.fieldAddr117_3 Tryd.fieldAddrF117_3 Tryd.field117_3 Tryd.fieldAddr117_4 Tryd.fieldAddrF117_4 Tryd.field117_4 Tryd.fieldAddr117_5 Tryd.fieldAddrF117_5 Tryd.field117_5 Tryd.fieldAddr117_6 Tryd.fieldAddrF117_6 Tryd.field117_6 Tryd.fieldAddr117_7 Tryd.fieldAddrF117_7 Tryd.field117_7 Tryd.fieldAddr117_8 Tryd.fieldAddrF117_8 Tryd.field117_8 Tryd.fieldAddr117_9
attribute [go_sem] Tryd.fieldAddrF117_9 Tryd.field117_9 Tryd.fieldAddr117_10 Tryd.fieldAddrF117_10 Tryd.field117_10 Tryd.fieldAddr118_0 Tryd.fieldAddrF118_0 Tryd.field118_0 Tryd.fieldAddr118_1 Tryd.fieldAddrF118_1 Tryd.field118_1 Tryd.fieldAddr118_2 Tryd.fieldAddrF118_2 Tryd.field118_2 Tryd.fieldAddr118_3 Tryd.fieldAddrF118_3 Tryd.field118_3 Tryd.fieldAddr118_4 Tryd.fieldAddrF118_4 Tryd.field118_4 Tryd.fieldAddr118_5 Tryd.fieldAddrF118_5 Tryd.field118_5 Tryd.fieldAddr118_6 Tryd.fieldAddrF118_6 Tryd.field118_6 Tryd.fieldAddr118_7 Tryd.fieldAddrF118_7 Tryd.field118_7 Tryd.fieldAddr118_8 Tryd.fieldAddrF118_8 Tryd.field118_8 Tryd.fieldAddr118_9 Tryd.fieldAddrF118_9 Tryd.field118_9 Tryd.fieldAddr118_10 Tryd.fieldAddrF118_10 Tryd.field118_10 Tryd.alloc1 Tryd.alloc2
attribute [go_sem] Tryd.alloc3 Tryd.alloc4 Tryd.alloc5 Tryd.alloc6 Tryd.alloc7 Tryd.alloc8 Tryd.alloc9 Tryd.alloc10 Tryd.alloc11 Tryd.alloc12 Tryd.alloc13 Tryd.alloc14 Tryd.alloc15 Tryd.alloc16 Tryd.alloc17 Tryd.alloc18 Tryd.alloc19 Tryd.alloc20 Tryd.alloc21 Tryd.alloc22 Tryd.alloc23 Tryd.alloc24 Tryd.alloc25 Tryd.alloc26 Tryd.alloc27 Tryd.alloc28 Tryd.alloc29 Tryd.alloc30 Tryd.alloc31 Tryd.alloc33 Tryd.alloc35 Tryd.alloc37 Tryd.alloc39 Tryd.alloc40 Tryd.alloc41 Tryd.alloc43 Tryd.alloc45 Tryd.alloc46 Tryd.alloc47 Tryd.alloc48
attribute [go_sem] Tryd.alloc49 Tryd.alloc50 Tryd.alloc52 Tryd.alloc53 Tryd.alloc55 Tryd.alloc56 Tryd.alloc57 Tryd.alloc58 Tryd.alloc59 Tryd.alloc60 Tryd.alloc62 Tryd.alloc63 Tryd.alloc64 Tryd.alloc66 Tryd.alloc67 Tryd.alloc68 Tryd.alloc69 Tryd.alloc70 Tryd.alloc71 Tryd.alloc72 Tryd.alloc73 Tryd.alloc74 Tryd.alloc76 Tryd.alloc77 Tryd.alloc78 Tryd.alloc80 Tryd.alloc82 Tryd.alloc83 Tryd.alloc84 Tryd.alloc85 Tryd.alloc86 Tryd.alloc87 Tryd.alloc88 Tryd.alloc90 Tryd.alloc91 Tryd.alloc92 Tryd.alloc94 Tryd.alloc95 Tryd.alloc96 Tryd.alloc97
attribute [go_sem] Tryd.alloc98 Tryd.alloc99 Tryd.alloc100 Tryd.alloc101 Tryd.alloc102 Tryd.alloc103 Tryd.alloc104 Tryd.alloc105 Tryd.alloc106 Tryd.alloc110 Tryd.alloc111 Tryd.alloc112 Tryd.alloc113 Tryd.alloc114 Tryd.alloc115 Tryd.alloc116 Tryd.alloc117 Tryd.alloc118 Tryd.build7 Tryd.build8 Tryd.build13 Tryd.build14 Tryd.build18 Tryd.build19 Tryd.build50 Tryd.build98 Tryd.build99 Tryd.build105 Tryd.build106 Tryd.build117 Tryd.build118 Tryd.index24 Tryd.indexA24 Tryd.indexF24 Tryd.sliceF24 Tryd.arrptrZ24 Tryd.lenA24 Tryd.sliceA24 Tryd.arrptr24 Tryd.buildA24
attribute [go_sem] Tryd.index25 Tryd.indexA25 Tryd.indexF25 Tryd.sliceF25 Tryd.arrptrZ25 Tryd.lenA25 Tryd.sliceA25 Tryd.arrptr25 Tryd.buildA25 Tryd.index40 Tryd.indexA40 Tryd.indexF40 Tryd.sliceF40 Tryd.arrptrZ40 Tryd.lenA40 Tryd.sliceA40 Tryd.arrptr40 Tryd.buildA40 Tryd.index41 Tryd.indexA41 Tryd.indexF41 Tryd.sliceF41 Tryd.arrptrZ41 Tryd.lenA41 Tryd.sliceA41 Tryd.arrptr41 Tryd.buildA41 Tryd.index73 Tryd.indexA73 Tryd.indexF73 Tryd.sliceF73 Tryd.arrptrZ73 Tryd.lenA73 Tryd.sliceA73 Tryd.arrptr73 Tryd.buildA73 Tryd.index74 Tryd.indexA74 Tryd.indexF74 Tryd.sliceF74
attribute [go_sem] Tryd.arrptrZ74 Tryd.lenA74 Tryd.sliceA74 Tryd.arrptr74 Tryd.buildA74 Tryd.index97 Tryd.indexA97 Tryd.indexF97 Tryd.sliceF97 Tryd.arrptrZ97 Tryd.lenA97 Tryd.sliceA97 Tryd.arrptr97 Tryd.buildA97 Tryd.index100 Tryd.indexA100 Tryd.indexF100 Tryd.sliceF100 Tryd.arrptrZ100 Tryd.lenA100 Tryd.sliceA100 Tryd.arrptr100 Tryd.buildA100 Tryd.index107 Tryd.indexA107 Tryd.indexF107 Tryd.sliceF107 Tryd.arrptrZ107 Tryd.lenA107 Tryd.sliceA107 Tryd.arrptr107 Tryd.indexS22 Tryd.indexZ22 Tryd.indexV22 Tryd.lenZ22 Tryd.lenV22 Tryd.lenO22 Tryd.indexO22 Tryd.sliceV22 Tryd.sliceZ22
attribute [go_sem] Tryd.len22 Tryd.sliceS22 Tryd.sliceN22 Tryd.buildS22 Tryd.make22 Tryd.append22 Tryd.indexS64 Tryd.indexZ64 Tryd.indexV64 Tryd.lenZ64 Tryd.lenV64 Tryd.lenO64 Tryd.indexO64 Tryd.sliceV64 Tryd.sliceZ64 Tryd.len64 Tryd.sliceS64 Tryd.sliceN64 Tryd.buildS64 Tryd.make64 Tryd.append64 Tryd.conv2 Tryd.conv3 Tryd.conv5 Tryd.conv6 Tryd.conv12 Tryd.conv21 Tryd.conv23 Tryd.conv30 Tryd.conv31 Tryd.conv57 Tryd.conv111 Tryd.conv112 Tryd.conv113 Tryd.conv115 Tryd.conv116 Tryd.nint9 Tryd.nint10 Tryd.nint11 Tryd.nint22
attribute [go_sem] Tryd.nint64 Tryd.lenT9 Tryd.sliceT9 Tryd.lenT10 Tryd.sliceT10 Tryd.lenT11 Tryd.sliceT11 Tryd.eqlB4 Tryd.neqB4 Tryd.eqlR24 Tryd.neqR24 Tryd.eqlR25 Tryd.neqR25 Tryd.eqlR40 Tryd.neqR40 Tryd.eqlR41 Tryd.neqR41 Tryd.hb2 Tryd.hb3 Tryd.hb4 Tryd.hb5 Tryd.hb6 Tryd.hb7 Tryd.hb8 Tryd.hb9 Tryd.hb10 Tryd.hb11 Tryd.hb12 Tryd.hb13 Tryd.hb14 Tryd.hb15 Tryd.hb16 Tryd.hb17 Tryd.hb18 Tryd.hb19 Tryd.hb20 Tryd.hb21 Tryd.hb22 Tryd.hb23 Tryd.hb24
attribute [go_sem] Tryd.hb25 Tryd.hb26 Tryd.hb27 Tryd.hb28 Tryd.hb29 Tryd.hb30 Tryd.hb31 Tryd.hb32 Tryd.hb33 Tryd.hb34 Tryd.hb35 Tryd.hb36 Tryd.hb37 Tryd.hb38 Tryd.hb39 Tryd.hb40 Tryd.hb41 Tryd.hb42 Tryd.hb44 Tryd.hb45 Tryd.hb46 Tryd.hb47 Tryd.hb48 Tryd.hb49 Tryd.hb50 Tryd.hb51 Tryd.hb52 Tryd.hb53 Tryd.hb54 Tryd.hb55 Tryd.hb56 Tryd.hb58 Tryd.hb82
end Go.Proofs
