import Derived.Test.YtibkpodkogclbaaAm17
import Derived.Test.YtibkpodkogclbaaProg
import Derived.KernelRfl
/- Closed facts of the types and functions. -/
namespace Go.Proofs
open Go Go.Am
theorem Try.tyc0 : tyc Try.prog 0 = some (false, 1) := by kernel_rfl
theorem Try.load0 {h : AH} {b o : Nat} : aload Try.prog h 0 (.pointer (some ⟨b, o, none⟩)) = mkLoad o (some (false, 1)) h[b]? := aload_eq Try.tyc0
theorem Try.store0 {h : AH} {b o : Nat} {v : Value} : astore Try.prog h 0 (.pointer (some ⟨b, o, none⟩)) v = mkStore h b o v (some (false, 1)) h[b]? := astore_eq' Try.tyc0
theorem Try.some0 : (tyc Try.prog 0).isSome = true := by rw [Try.tyc0]; rfl
theorem Try.tyc1 : tyc Try.prog 1 = some (false, 1) := by kernel_rfl
theorem Try.load1 {h : AH} {b o : Nat} : aload Try.prog h 1 (.pointer (some ⟨b, o, none⟩)) = mkLoad o (some (false, 1)) h[b]? := aload_eq Try.tyc1
theorem Try.store1 {h : AH} {b o : Nat} {v : Value} : astore Try.prog h 1 (.pointer (some ⟨b, o, none⟩)) v = mkStore h b o v (some (false, 1)) h[b]? := astore_eq' Try.tyc1
theorem Try.some1 : (tyc Try.prog 1).isSome = true := by rw [Try.tyc1]; rfl
theorem Try.tyc2 : tyc Try.prog 2 = some (false, 1) := by kernel_rfl
theorem Try.load2 {h : AH} {b o : Nat} : aload Try.prog h 2 (.pointer (some ⟨b, o, none⟩)) = mkLoad o (some (false, 1)) h[b]? := aload_eq Try.tyc2
theorem Try.store2 {h : AH} {b o : Nat} {v : Value} : astore Try.prog h 2 (.pointer (some ⟨b, o, none⟩)) v = mkStore h b o v (some (false, 1)) h[b]? := astore_eq' Try.tyc2
theorem Try.some2 : (tyc Try.prog 2).isSome = true := by rw [Try.tyc2]; rfl
theorem Try.tyc3 : tyc Try.prog 3 = some (false, 1) := by kernel_rfl
theorem Try.load3 {h : AH} {b o : Nat} : aload Try.prog h 3 (.pointer (some ⟨b, o, none⟩)) = mkLoad o (some (false, 1)) h[b]? := aload_eq Try.tyc3
theorem Try.store3 {h : AH} {b o : Nat} {v : Value} : astore Try.prog h 3 (.pointer (some ⟨b, o, none⟩)) v = mkStore h b o v (some (false, 1)) h[b]? := astore_eq' Try.tyc3
theorem Try.some3 : (tyc Try.prog 3).isSome = true := by rw [Try.tyc3]; rfl
theorem Try.tyc4 : tyc Try.prog 4 = some (false, 1) := by kernel_rfl
theorem Try.load4 {h : AH} {b o : Nat} : aload Try.prog h 4 (.pointer (some ⟨b, o, none⟩)) = mkLoad o (some (false, 1)) h[b]? := aload_eq Try.tyc4
theorem Try.store4 {h : AH} {b o : Nat} {v : Value} : astore Try.prog h 4 (.pointer (some ⟨b, o, none⟩)) v = mkStore h b o v (some (false, 1)) h[b]? := astore_eq' Try.tyc4
theorem Try.some4 : (tyc Try.prog 4).isSome = true := by rw [Try.tyc4]; rfl
theorem Try.tyc5 : tyc Try.prog 5 = some (false, 1) := by kernel_rfl
theorem Try.load5 {h : AH} {b o : Nat} : aload Try.prog h 5 (.pointer (some ⟨b, o, none⟩)) = mkLoad o (some (false, 1)) h[b]? := aload_eq Try.tyc5
theorem Try.store5 {h : AH} {b o : Nat} {v : Value} : astore Try.prog h 5 (.pointer (some ⟨b, o, none⟩)) v = mkStore h b o v (some (false, 1)) h[b]? := astore_eq' Try.tyc5
theorem Try.some5 : (tyc Try.prog 5).isSome = true := by rw [Try.tyc5]; rfl
theorem Try.tyc6 : tyc Try.prog 6 = some (false, 1) := by kernel_rfl
theorem Try.load6 {h : AH} {b o : Nat} : aload Try.prog h 6 (.pointer (some ⟨b, o, none⟩)) = mkLoad o (some (false, 1)) h[b]? := aload_eq Try.tyc6
theorem Try.store6 {h : AH} {b o : Nat} {v : Value} : astore Try.prog h 6 (.pointer (some ⟨b, o, none⟩)) v = mkStore h b o v (some (false, 1)) h[b]? := astore_eq' Try.tyc6
theorem Try.some6 : (tyc Try.prog 6).isSome = true := by rw [Try.tyc6]; rfl
theorem Try.tyc7 : tyc Try.prog 7 = some (true, 4) := by kernel_rfl
theorem Try.load7 {h : AH} {b o : Nat} : aload Try.prog h 7 (.pointer (some ⟨b, o, none⟩)) = mkLoad o (some (true, 4)) h[b]? := aload_eq Try.tyc7
theorem Try.store7 {h : AH} {b o : Nat} {v : Value} : astore Try.prog h 7 (.pointer (some ⟨b, o, none⟩)) v = mkStore h b o v (some (true, 4)) h[b]? := astore_eq' Try.tyc7
theorem Try.some7 : (tyc Try.prog 7).isSome = true := by rw [Try.tyc7]; rfl
theorem Try.tyc8 : tyc Try.prog 8 = some (true, 4) := by kernel_rfl
theorem Try.load8 {h : AH} {b o : Nat} : aload Try.prog h 8 (.pointer (some ⟨b, o, none⟩)) = mkLoad o (some (true, 4)) h[b]? := aload_eq Try.tyc8
theorem Try.store8 {h : AH} {b o : Nat} {v : Value} : astore Try.prog h 8 (.pointer (some ⟨b, o, none⟩)) v = mkStore h b o v (some (true, 4)) h[b]? := astore_eq' Try.tyc8
theorem Try.some8 : (tyc Try.prog 8).isSome = true := by rw [Try.tyc8]; rfl
theorem Try.tyc9 : tyc Try.prog 9 = some (false, 1) := by kernel_rfl
theorem Try.load9 {h : AH} {b o : Nat} : aload Try.prog h 9 (.pointer (some ⟨b, o, none⟩)) = mkLoad o (some (false, 1)) h[b]? := aload_eq Try.tyc9
theorem Try.store9 {h : AH} {b o : Nat} {v : Value} : astore Try.prog h 9 (.pointer (some ⟨b, o, none⟩)) v = mkStore h b o v (some (false, 1)) h[b]? := astore_eq' Try.tyc9
theorem Try.some9 : (tyc Try.prog 9).isSome = true := by rw [Try.tyc9]; rfl
theorem Try.tyc10 : tyc Try.prog 10 = some (false, 1) := by kernel_rfl
theorem Try.load10 {h : AH} {b o : Nat} : aload Try.prog h 10 (.pointer (some ⟨b, o, none⟩)) = mkLoad o (some (false, 1)) h[b]? := aload_eq Try.tyc10
theorem Try.store10 {h : AH} {b o : Nat} {v : Value} : astore Try.prog h 10 (.pointer (some ⟨b, o, none⟩)) v = mkStore h b o v (some (false, 1)) h[b]? := astore_eq' Try.tyc10
theorem Try.some10 : (tyc Try.prog 10).isSome = true := by rw [Try.tyc10]; rfl
theorem Try.tyc11 : tyc Try.prog 11 = some (false, 1) := by kernel_rfl
theorem Try.load11 {h : AH} {b o : Nat} : aload Try.prog h 11 (.pointer (some ⟨b, o, none⟩)) = mkLoad o (some (false, 1)) h[b]? := aload_eq Try.tyc11
theorem Try.store11 {h : AH} {b o : Nat} {v : Value} : astore Try.prog h 11 (.pointer (some ⟨b, o, none⟩)) v = mkStore h b o v (some (false, 1)) h[b]? := astore_eq' Try.tyc11
theorem Try.some11 : (tyc Try.prog 11).isSome = true := by rw [Try.tyc11]; rfl
theorem Try.tyc12 : tyc Try.prog 12 = some (false, 1) := by kernel_rfl
theorem Try.load12 {h : AH} {b o : Nat} : aload Try.prog h 12 (.pointer (some ⟨b, o, none⟩)) = mkLoad o (some (false, 1)) h[b]? := aload_eq Try.tyc12
theorem Try.store12 {h : AH} {b o : Nat} {v : Value} : astore Try.prog h 12 (.pointer (some ⟨b, o, none⟩)) v = mkStore h b o v (some (false, 1)) h[b]? := astore_eq' Try.tyc12
theorem Try.some12 : (tyc Try.prog 12).isSome = true := by rw [Try.tyc12]; rfl
theorem Try.tyc13 : tyc Try.prog 13 = some (true, 2) := by kernel_rfl
theorem Try.load13 {h : AH} {b o : Nat} : aload Try.prog h 13 (.pointer (some ⟨b, o, none⟩)) = mkLoad o (some (true, 2)) h[b]? := aload_eq Try.tyc13
theorem Try.store13 {h : AH} {b o : Nat} {v : Value} : astore Try.prog h 13 (.pointer (some ⟨b, o, none⟩)) v = mkStore h b o v (some (true, 2)) h[b]? := astore_eq' Try.tyc13
theorem Try.some13 : (tyc Try.prog 13).isSome = true := by rw [Try.tyc13]; rfl
theorem Try.tyc14 : tyc Try.prog 14 = some (true, 2) := by kernel_rfl
theorem Try.load14 {h : AH} {b o : Nat} : aload Try.prog h 14 (.pointer (some ⟨b, o, none⟩)) = mkLoad o (some (true, 2)) h[b]? := aload_eq Try.tyc14
theorem Try.store14 {h : AH} {b o : Nat} {v : Value} : astore Try.prog h 14 (.pointer (some ⟨b, o, none⟩)) v = mkStore h b o v (some (true, 2)) h[b]? := astore_eq' Try.tyc14
theorem Try.some14 : (tyc Try.prog 14).isSome = true := by rw [Try.tyc14]; rfl
theorem Try.tyc15 : tyc Try.prog 15 = some (false, 1) := by kernel_rfl
theorem Try.load15 {h : AH} {b o : Nat} : aload Try.prog h 15 (.pointer (some ⟨b, o, none⟩)) = mkLoad o (some (false, 1)) h[b]? := aload_eq Try.tyc15
theorem Try.store15 {h : AH} {b o : Nat} {v : Value} : astore Try.prog h 15 (.pointer (some ⟨b, o, none⟩)) v = mkStore h b o v (some (false, 1)) h[b]? := astore_eq' Try.tyc15
theorem Try.some15 : (tyc Try.prog 15).isSome = true := by rw [Try.tyc15]; rfl
theorem Try.tyc16 : tyc Try.prog 16 = some (false, 1) := by kernel_rfl
theorem Try.load16 {h : AH} {b o : Nat} : aload Try.prog h 16 (.pointer (some ⟨b, o, none⟩)) = mkLoad o (some (false, 1)) h[b]? := aload_eq Try.tyc16
theorem Try.store16 {h : AH} {b o : Nat} {v : Value} : astore Try.prog h 16 (.pointer (some ⟨b, o, none⟩)) v = mkStore h b o v (some (false, 1)) h[b]? := astore_eq' Try.tyc16
theorem Try.some16 : (tyc Try.prog 16).isSome = true := by rw [Try.tyc16]; rfl
theorem Try.tyc17 : tyc Try.prog 17 = some (false, 1) := by kernel_rfl
theorem Try.load17 {h : AH} {b o : Nat} : aload Try.prog h 17 (.pointer (some ⟨b, o, none⟩)) = mkLoad o (some (false, 1)) h[b]? := aload_eq Try.tyc17
theorem Try.store17 {h : AH} {b o : Nat} {v : Value} : astore Try.prog h 17 (.pointer (some ⟨b, o, none⟩)) v = mkStore h b o v (some (false, 1)) h[b]? := astore_eq' Try.tyc17
theorem Try.some17 : (tyc Try.prog 17).isSome = true := by rw [Try.tyc17]; rfl
theorem Try.tyc18 : tyc Try.prog 18 = some (true, 1) := by kernel_rfl
theorem Try.load18 {h : AH} {b o : Nat} : aload Try.prog h 18 (.pointer (some ⟨b, o, none⟩)) = mkLoad o (some (true, 1)) h[b]? := aload_eq Try.tyc18
theorem Try.store18 {h : AH} {b o : Nat} {v : Value} : astore Try.prog h 18 (.pointer (some ⟨b, o, none⟩)) v = mkStore h b o v (some (true, 1)) h[b]? := astore_eq' Try.tyc18
theorem Try.some18 : (tyc Try.prog 18).isSome = true := by rw [Try.tyc18]; rfl
theorem Try.tyc19 : tyc Try.prog 19 = some (true, 1) := by kernel_rfl
theorem Try.load19 {h : AH} {b o : Nat} : aload Try.prog h 19 (.pointer (some ⟨b, o, none⟩)) = mkLoad o (some (true, 1)) h[b]? := aload_eq Try.tyc19
theorem Try.store19 {h : AH} {b o : Nat} {v : Value} : astore Try.prog h 19 (.pointer (some ⟨b, o, none⟩)) v = mkStore h b o v (some (true, 1)) h[b]? := astore_eq' Try.tyc19
theorem Try.some19 : (tyc Try.prog 19).isSome = true := by rw [Try.tyc19]; rfl
theorem Try.tyc20 : tyc Try.prog 20 = some (false, 1) := by kernel_rfl
theorem Try.load20 {h : AH} {b o : Nat} : aload Try.prog h 20 (.pointer (some ⟨b, o, none⟩)) = mkLoad o (some (false, 1)) h[b]? := aload_eq Try.tyc20
theorem Try.store20 {h : AH} {b o : Nat} {v : Value} : astore Try.prog h 20 (.pointer (some ⟨b, o, none⟩)) v = mkStore h b o v (some (false, 1)) h[b]? := astore_eq' Try.tyc20
theorem Try.some20 : (tyc Try.prog 20).isSome = true := by rw [Try.tyc20]; rfl
theorem Try.tyc21 : tyc Try.prog 21 = some (false, 1) := by kernel_rfl
theorem Try.load21 {h : AH} {b o : Nat} : aload Try.prog h 21 (.pointer (some ⟨b, o, none⟩)) = mkLoad o (some (false, 1)) h[b]? := aload_eq Try.tyc21
theorem Try.store21 {h : AH} {b o : Nat} {v : Value} : astore Try.prog h 21 (.pointer (some ⟨b, o, none⟩)) v = mkStore h b o v (some (false, 1)) h[b]? := astore_eq' Try.tyc21
theorem Try.some21 : (tyc Try.prog 21).isSome = true := by rw [Try.tyc21]; rfl
theorem Try.tyc22 : tyc Try.prog 22 = some (true, 20) := by kernel_rfl
theorem Try.load22 {h : AH} {b o : Nat} : aload Try.prog h 22 (.pointer (some ⟨b, o, none⟩)) = mkLoad o (some (true, 20)) h[b]? := aload_eq Try.tyc22
theorem Try.store22 {h : AH} {b o : Nat} {v : Value} : astore Try.prog h 22 (.pointer (some ⟨b, o, none⟩)) v = mkStore h b o v (some (true, 20)) h[b]? := astore_eq' Try.tyc22
theorem Try.some22 : (tyc Try.prog 22).isSome = true := by rw [Try.tyc22]; rfl
theorem Try.tyc23 : tyc Try.prog 23 = some (true, 20) := by kernel_rfl
theorem Try.load23 {h : AH} {b o : Nat} : aload Try.prog h 23 (.pointer (some ⟨b, o, none⟩)) = mkLoad o (some (true, 20)) h[b]? := aload_eq Try.tyc23
theorem Try.store23 {h : AH} {b o : Nat} {v : Value} : astore Try.prog h 23 (.pointer (some ⟨b, o, none⟩)) v = mkStore h b o v (some (true, 20)) h[b]? := astore_eq' Try.tyc23
theorem Try.some23 : (tyc Try.prog 23).isSome = true := by rw [Try.tyc23]; rfl
theorem Try.tyc24 : tyc Try.prog 24 = some (false, 1) := by kernel_rfl
theorem Try.load24 {h : AH} {b o : Nat} : aload Try.prog h 24 (.pointer (some ⟨b, o, none⟩)) = mkLoad o (some (false, 1)) h[b]? := aload_eq Try.tyc24
theorem Try.store24 {h : AH} {b o : Nat} {v : Value} : astore Try.prog h 24 (.pointer (some ⟨b, o, none⟩)) v = mkStore h b o v (some (false, 1)) h[b]? := astore_eq' Try.tyc24
theorem Try.some24 : (tyc Try.prog 24).isSome = true := by rw [Try.tyc24]; rfl
theorem Try.tyc25 : tyc Try.prog 25 = some (true, 22) := by kernel_rfl
theorem Try.load25 {h : AH} {b o : Nat} : aload Try.prog h 25 (.pointer (some ⟨b, o, none⟩)) = mkLoad o (some (true, 22)) h[b]? := aload_eq Try.tyc25
theorem Try.store25 {h : AH} {b o : Nat} {v : Value} : astore Try.prog h 25 (.pointer (some ⟨b, o, none⟩)) v = mkStore h b o v (some (true, 22)) h[b]? := astore_eq' Try.tyc25
theorem Try.some25 : (tyc Try.prog 25).isSome = true := by rw [Try.tyc25]; rfl
theorem Try.tyc26 : tyc Try.prog 26 = some (true, 22) := by kernel_rfl
theorem Try.load26 {h : AH} {b o : Nat} : aload Try.prog h 26 (.pointer (some ⟨b, o, none⟩)) = mkLoad o (some (true, 22)) h[b]? := aload_eq Try.tyc26
theorem Try.store26 {h : AH} {b o : Nat} {v : Value} : astore Try.prog h 26 (.pointer (some ⟨b, o, none⟩)) v = mkStore h b o v (some (true, 22)) h[b]? := astore_eq' Try.tyc26
theorem Try.some26 : (tyc Try.prog 26).isSome = true := by rw [Try.tyc26]; rfl
theorem Try.tyc27 : tyc Try.prog 27 = some (false, 1) := by kernel_rfl
theorem Try.load27 {h : AH} {b o : Nat} : aload Try.prog h 27 (.pointer (some ⟨b, o, none⟩)) = mkLoad o (some (false, 1)) h[b]? := aload_eq Try.tyc27
theorem Try.store27 {h : AH} {b o : Nat} {v : Value} : astore Try.prog h 27 (.pointer (some ⟨b, o, none⟩)) v = mkStore h b o v (some (false, 1)) h[b]? := astore_eq' Try.tyc27
theorem Try.some27 : (tyc Try.prog 27).isSome = true := by rw [Try.tyc27]; rfl
theorem Try.tyc28 : tyc Try.prog 28 = some (false, 1) := by kernel_rfl
theorem Try.load28 {h : AH} {b o : Nat} : aload Try.prog h 28 (.pointer (some ⟨b, o, none⟩)) = mkLoad o (some (false, 1)) h[b]? := aload_eq Try.tyc28
theorem Try.store28 {h : AH} {b o : Nat} {v : Value} : astore Try.prog h 28 (.pointer (some ⟨b, o, none⟩)) v = mkStore h b o v (some (false, 1)) h[b]? := astore_eq' Try.tyc28
theorem Try.some28 : (tyc Try.prog 28).isSome = true := by rw [Try.tyc28]; rfl
theorem Try.tyc29 : tyc Try.prog 29 = some (false, 1) := by kernel_rfl
theorem Try.load29 {h : AH} {b o : Nat} : aload Try.prog h 29 (.pointer (some ⟨b, o, none⟩)) = mkLoad o (some (false, 1)) h[b]? := aload_eq Try.tyc29
theorem Try.store29 {h : AH} {b o : Nat} {v : Value} : astore Try.prog h 29 (.pointer (some ⟨b, o, none⟩)) v = mkStore h b o v (some (false, 1)) h[b]? := astore_eq' Try.tyc29
theorem Try.some29 : (tyc Try.prog 29).isSome = true := by rw [Try.tyc29]; rfl
theorem Try.tyc30 : tyc Try.prog 30 = some (false, 1) := by kernel_rfl
theorem Try.load30 {h : AH} {b o : Nat} : aload Try.prog h 30 (.pointer (some ⟨b, o, none⟩)) = mkLoad o (some (false, 1)) h[b]? := aload_eq Try.tyc30
theorem Try.store30 {h : AH} {b o : Nat} {v : Value} : astore Try.prog h 30 (.pointer (some ⟨b, o, none⟩)) v = mkStore h b o v (some (false, 1)) h[b]? := astore_eq' Try.tyc30
theorem Try.some30 : (tyc Try.prog 30).isSome = true := by rw [Try.tyc30]; rfl
theorem Try.tyc31 : tyc Try.prog 31 = some (false, 1) := by kernel_rfl
theorem Try.load31 {h : AH} {b o : Nat} : aload Try.prog h 31 (.pointer (some ⟨b, o, none⟩)) = mkLoad o (some (false, 1)) h[b]? := aload_eq Try.tyc31
theorem Try.store31 {h : AH} {b o : Nat} {v : Value} : astore Try.prog h 31 (.pointer (some ⟨b, o, none⟩)) v = mkStore h b o v (some (false, 1)) h[b]? := astore_eq' Try.tyc31
theorem Try.some31 : (tyc Try.prog 31).isSome = true := by rw [Try.tyc31]; rfl
theorem Try.tyc32 : tyc Try.prog 32 = some (false, 1) := by kernel_rfl
theorem Try.load32 {h : AH} {b o : Nat} : aload Try.prog h 32 (.pointer (some ⟨b, o, none⟩)) = mkLoad o (some (false, 1)) h[b]? := aload_eq Try.tyc32
theorem Try.store32 {h : AH} {b o : Nat} {v : Value} : astore Try.prog h 32 (.pointer (some ⟨b, o, none⟩)) v = mkStore h b o v (some (false, 1)) h[b]? := astore_eq' Try.tyc32
theorem Try.some32 : (tyc Try.prog 32).isSome = true := by rw [Try.tyc32]; rfl
theorem Try.tyc33 : tyc Try.prog 33 = some (false, 1) := by kernel_rfl
theorem Try.load33 {h : AH} {b o : Nat} : aload Try.prog h 33 (.pointer (some ⟨b, o, none⟩)) = mkLoad o (some (false, 1)) h[b]? := aload_eq Try.tyc33
theorem Try.store33 {h : AH} {b o : Nat} {v : Value} : astore Try.prog h 33 (.pointer (some ⟨b, o, none⟩)) v = mkStore h b o v (some (false, 1)) h[b]? := astore_eq' Try.tyc33
theorem Try.some33 : (tyc Try.prog 33).isSome = true := by rw [Try.tyc33]; rfl
theorem Try.tyc34 : tyc Try.prog 34 = some (false, 1) := by kernel_rfl
theorem Try.load34 {h : AH} {b o : Nat} : aload Try.prog h 34 (.pointer (some ⟨b, o, none⟩)) = mkLoad o (some (false, 1)) h[b]? := aload_eq Try.tyc34
theorem Try.store34 {h : AH} {b o : Nat} {v : Value} : astore Try.prog h 34 (.pointer (some ⟨b, o, none⟩)) v = mkStore h b o v (some (false, 1)) h[b]? := astore_eq' Try.tyc34
theorem Try.some34 : (tyc Try.prog 34).isSome = true := by rw [Try.tyc34]; rfl
theorem Try.tyc35 : tyc Try.prog 35 = some (false, 1) := by kernel_rfl
theorem Try.load35 {h : AH} {b o : Nat} : aload Try.prog h 35 (.pointer (some ⟨b, o, none⟩)) = mkLoad o (some (false, 1)) h[b]? := aload_eq Try.tyc35
theorem Try.store35 {h : AH} {b o : Nat} {v : Value} : astore Try.prog h 35 (.pointer (some ⟨b, o, none⟩)) v = mkStore h b o v (some (false, 1)) h[b]? := astore_eq' Try.tyc35
theorem Try.some35 : (tyc Try.prog 35).isSome = true := by rw [Try.tyc35]; rfl
theorem Try.tyc36 : tyc Try.prog 36 = some (false, 1) := by kernel_rfl
theorem Try.load36 {h : AH} {b o : Nat} : aload Try.prog h 36 (.pointer (some ⟨b, o, none⟩)) = mkLoad o (some (false, 1)) h[b]? := aload_eq Try.tyc36
theorem Try.store36 {h : AH} {b o : Nat} {v : Value} : astore Try.prog h 36 (.pointer (some ⟨b, o, none⟩)) v = mkStore h b o v (some (false, 1)) h[b]? := astore_eq' Try.tyc36
theorem Try.some36 : (tyc Try.prog 36).isSome = true := by rw [Try.tyc36]; rfl
theorem Try.tyc37 : tyc Try.prog 37 = some (false, 1) := by kernel_rfl
theorem Try.load37 {h : AH} {b o : Nat} : aload Try.prog h 37 (.pointer (some ⟨b, o, none⟩)) = mkLoad o (some (false, 1)) h[b]? := aload_eq Try.tyc37
theorem Try.store37 {h : AH} {b o : Nat} {v : Value} : astore Try.prog h 37 (.pointer (some ⟨b, o, none⟩)) v = mkStore h b o v (some (false, 1)) h[b]? := astore_eq' Try.tyc37
theorem Try.some37 : (tyc Try.prog 37).isSome = true := by rw [Try.tyc37]; rfl
theorem Try.tyc38 : tyc Try.prog 38 = some (false, 1) := by kernel_rfl
theorem Try.load38 {h : AH} {b o : Nat} : aload Try.prog h 38 (.pointer (some ⟨b, o, none⟩)) = mkLoad o (some (false, 1)) h[b]? := aload_eq Try.tyc38
theorem Try.store38 {h : AH} {b o : Nat} {v : Value} : astore Try.prog h 38 (.pointer (some ⟨b, o, none⟩)) v = mkStore h b o v (some (false, 1)) h[b]? := astore_eq' Try.tyc38
theorem Try.some38 : (tyc Try.prog 38).isSome = true := by rw [Try.tyc38]; rfl
theorem Try.tyc39 : tyc Try.prog 39 = some (false, 1) := by kernel_rfl
theorem Try.load39 {h : AH} {b o : Nat} : aload Try.prog h 39 (.pointer (some ⟨b, o, none⟩)) = mkLoad o (some (false, 1)) h[b]? := aload_eq Try.tyc39
theorem Try.store39 {h : AH} {b o : Nat} {v : Value} : astore Try.prog h 39 (.pointer (some ⟨b, o, none⟩)) v = mkStore h b o v (some (false, 1)) h[b]? := astore_eq' Try.tyc39
theorem Try.some39 : (tyc Try.prog 39).isSome = true := by rw [Try.tyc39]; rfl
theorem Try.tyc40 : tyc Try.prog 40 = some (false, 1) := by kernel_rfl
theorem Try.load40 {h : AH} {b o : Nat} : aload Try.prog h 40 (.pointer (some ⟨b, o, none⟩)) = mkLoad o (some (false, 1)) h[b]? := aload_eq Try.tyc40
theorem Try.store40 {h : AH} {b o : Nat} {v : Value} : astore Try.prog h 40 (.pointer (some ⟨b, o, none⟩)) v = mkStore h b o v (some (false, 1)) h[b]? := astore_eq' Try.tyc40
theorem Try.some40 : (tyc Try.prog 40).isSome = true := by rw [Try.tyc40]; rfl
theorem Try.tyc41 : tyc Try.prog 41 = some (false, 1) := by kernel_rfl
theorem Try.load41 {h : AH} {b o : Nat} : aload Try.prog h 41 (.pointer (some ⟨b, o, none⟩)) = mkLoad o (some (false, 1)) h[b]? := aload_eq Try.tyc41
theorem Try.store41 {h : AH} {b o : Nat} {v : Value} : astore Try.prog h 41 (.pointer (some ⟨b, o, none⟩)) v = mkStore h b o v (some (false, 1)) h[b]? := astore_eq' Try.tyc41
theorem Try.some41 : (tyc Try.prog 41).isSome = true := by rw [Try.tyc41]; rfl
theorem Try.tyc42 : tyc Try.prog 42 = some (false, 1) := by kernel_rfl
theorem Try.load42 {h : AH} {b o : Nat} : aload Try.prog h 42 (.pointer (some ⟨b, o, none⟩)) = mkLoad o (some (false, 1)) h[b]? := aload_eq Try.tyc42
theorem Try.store42 {h : AH} {b o : Nat} {v : Value} : astore Try.prog h 42 (.pointer (some ⟨b, o, none⟩)) v = mkStore h b o v (some (false, 1)) h[b]? := astore_eq' Try.tyc42
theorem Try.some42 : (tyc Try.prog 42).isSome = true := by rw [Try.tyc42]; rfl
theorem Try.tyc43 : tyc Try.prog 43 = some (false, 1) := by kernel_rfl
theorem Try.load43 {h : AH} {b o : Nat} : aload Try.prog h 43 (.pointer (some ⟨b, o, none⟩)) = mkLoad o (some (false, 1)) h[b]? := aload_eq Try.tyc43
theorem Try.store43 {h : AH} {b o : Nat} {v : Value} : astore Try.prog h 43 (.pointer (some ⟨b, o, none⟩)) v = mkStore h b o v (some (false, 1)) h[b]? := astore_eq' Try.tyc43
theorem Try.some43 : (tyc Try.prog 43).isSome = true := by rw [Try.tyc43]; rfl
theorem Try.tyc44 : tyc Try.prog 44 = some (false, 1) := by kernel_rfl
theorem Try.load44 {h : AH} {b o : Nat} : aload Try.prog h 44 (.pointer (some ⟨b, o, none⟩)) = mkLoad o (some (false, 1)) h[b]? := aload_eq Try.tyc44
theorem Try.store44 {h : AH} {b o : Nat} {v : Value} : astore Try.prog h 44 (.pointer (some ⟨b, o, none⟩)) v = mkStore h b o v (some (false, 1)) h[b]? := astore_eq' Try.tyc44
theorem Try.some44 : (tyc Try.prog 44).isSome = true := by rw [Try.tyc44]; rfl
theorem Try.tyc45 : tyc Try.prog 45 = some (false, 1) := by kernel_rfl
theorem Try.load45 {h : AH} {b o : Nat} : aload Try.prog h 45 (.pointer (some ⟨b, o, none⟩)) = mkLoad o (some (false, 1)) h[b]? := aload_eq Try.tyc45
theorem Try.store45 {h : AH} {b o : Nat} {v : Value} : astore Try.prog h 45 (.pointer (some ⟨b, o, none⟩)) v = mkStore h b o v (some (false, 1)) h[b]? := astore_eq' Try.tyc45
theorem Try.some45 : (tyc Try.prog 45).isSome = true := by rw [Try.tyc45]; rfl
theorem Try.tyc46 : tyc Try.prog 46 = some (false, 1) := by kernel_rfl
theorem Try.load46 {h : AH} {b o : Nat} : aload Try.prog h 46 (.pointer (some ⟨b, o, none⟩)) = mkLoad o (some (false, 1)) h[b]? := aload_eq Try.tyc46
theorem Try.store46 {h : AH} {b o : Nat} {v : Value} : astore Try.prog h 46 (.pointer (some ⟨b, o, none⟩)) v = mkStore h b o v (some (false, 1)) h[b]? := astore_eq' Try.tyc46
theorem Try.some46 : (tyc Try.prog 46).isSome = true := by rw [Try.tyc46]; rfl
theorem Try.tyc47 : tyc Try.prog 47 = some (false, 1) := by kernel_rfl
theorem Try.load47 {h : AH} {b o : Nat} : aload Try.prog h 47 (.pointer (some ⟨b, o, none⟩)) = mkLoad o (some (false, 1)) h[b]? := aload_eq Try.tyc47
theorem Try.store47 {h : AH} {b o : Nat} {v : Value} : astore Try.prog h 47 (.pointer (some ⟨b, o, none⟩)) v = mkStore h b o v (some (false, 1)) h[b]? := astore_eq' Try.tyc47
theorem Try.some47 : (tyc Try.prog 47).isSome = true := by rw [Try.tyc47]; rfl
theorem Try.tyc48 : tyc Try.prog 48 = some (false, 1) := by kernel_rfl
theorem Try.load48 {h : AH} {b o : Nat} : aload Try.prog h 48 (.pointer (some ⟨b, o, none⟩)) = mkLoad o (some (false, 1)) h[b]? := aload_eq Try.tyc48
theorem Try.store48 {h : AH} {b o : Nat} {v : Value} : astore Try.prog h 48 (.pointer (some ⟨b, o, none⟩)) v = mkStore h b o v (some (false, 1)) h[b]? := astore_eq' Try.tyc48
theorem Try.some48 : (tyc Try.prog 48).isSome = true := by rw [Try.tyc48]; rfl
theorem Try.tyc49 : tyc Try.prog 49 = some (false, 1) := by kernel_rfl
theorem Try.load49 {h : AH} {b o : Nat} : aload Try.prog h 49 (.pointer (some ⟨b, o, none⟩)) = mkLoad o (some (false, 1)) h[b]? := aload_eq Try.tyc49
theorem Try.store49 {h : AH} {b o : Nat} {v : Value} : astore Try.prog h 49 (.pointer (some ⟨b, o, none⟩)) v = mkStore h b o v (some (false, 1)) h[b]? := astore_eq' Try.tyc49
theorem Try.some49 : (tyc Try.prog 49).isSome = true := by rw [Try.tyc49]; rfl
theorem Try.tyc50 : tyc Try.prog 50 = some (false, 1) := by kernel_rfl
theorem Try.load50 {h : AH} {b o : Nat} : aload Try.prog h 50 (.pointer (some ⟨b, o, none⟩)) = mkLoad o (some (false, 1)) h[b]? := aload_eq Try.tyc50
theorem Try.store50 {h : AH} {b o : Nat} {v : Value} : astore Try.prog h 50 (.pointer (some ⟨b, o, none⟩)) v = mkStore h b o v (some (false, 1)) h[b]? := astore_eq' Try.tyc50
theorem Try.some50 : (tyc Try.prog 50).isSome = true := by rw [Try.tyc50]; rfl
theorem Try.tyc51 : tyc Try.prog 51 = some (false, 1) := by kernel_rfl
theorem Try.load51 {h : AH} {b o : Nat} : aload Try.prog h 51 (.pointer (some ⟨b, o, none⟩)) = mkLoad o (some (false, 1)) h[b]? := aload_eq Try.tyc51
theorem Try.store51 {h : AH} {b o : Nat} {v : Value} : astore Try.prog h 51 (.pointer (some ⟨b, o, none⟩)) v = mkStore h b o v (some (false, 1)) h[b]? := astore_eq' Try.tyc51
theorem Try.some51 : (tyc Try.prog 51).isSome = true := by rw [Try.tyc51]; rfl
theorem Try.tyc52 : tyc Try.prog 52 = some (false, 1) := by kernel_rfl
theorem Try.load52 {h : AH} {b o : Nat} : aload Try.prog h 52 (.pointer (some ⟨b, o, none⟩)) = mkLoad o (some (false, 1)) h[b]? := aload_eq Try.tyc52
theorem Try.store52 {h : AH} {b o : Nat} {v : Value} : astore Try.prog h 52 (.pointer (some ⟨b, o, none⟩)) v = mkStore h b o v (some (false, 1)) h[b]? := astore_eq' Try.tyc52
theorem Try.some52 : (tyc Try.prog 52).isSome = true := by rw [Try.tyc52]; rfl
theorem Try.tyc53 : tyc Try.prog 53 = some (false, 1) := by kernel_rfl
theorem Try.load53 {h : AH} {b o : Nat} : aload Try.prog h 53 (.pointer (some ⟨b, o, none⟩)) = mkLoad o (some (false, 1)) h[b]? := aload_eq Try.tyc53
theorem Try.store53 {h : AH} {b o : Nat} {v : Value} : astore Try.prog h 53 (.pointer (some ⟨b, o, none⟩)) v = mkStore h b o v (some (false, 1)) h[b]? := astore_eq' Try.tyc53
theorem Try.some53 : (tyc Try.prog 53).isSome = true := by rw [Try.tyc53]; rfl
theorem Try.tyc54 : tyc Try.prog 54 = some (false, 1) := by kernel_rfl
theorem Try.load54 {h : AH} {b o : Nat} : aload Try.prog h 54 (.pointer (some ⟨b, o, none⟩)) = mkLoad o (some (false, 1)) h[b]? := aload_eq Try.tyc54
theorem Try.store54 {h : AH} {b o : Nat} {v : Value} : astore Try.prog h 54 (.pointer (some ⟨b, o, none⟩)) v = mkStore h b o v (some (false, 1)) h[b]? := astore_eq' Try.tyc54
theorem Try.some54 : (tyc Try.prog 54).isSome = true := by rw [Try.tyc54]; rfl
theorem Try.tyc55 : tyc Try.prog 55 = some (true, 4) := by kernel_rfl
theorem Try.load55 {h : AH} {b o : Nat} : aload Try.prog h 55 (.pointer (some ⟨b, o, none⟩)) = mkLoad o (some (true, 4)) h[b]? := aload_eq Try.tyc55
theorem Try.store55 {h : AH} {b o : Nat} {v : Value} : astore Try.prog h 55 (.pointer (some ⟨b, o, none⟩)) v = mkStore h b o v (some (true, 4)) h[b]? := astore_eq' Try.tyc55
theorem Try.some55 : (tyc Try.prog 55).isSome = true := by rw [Try.tyc55]; rfl
theorem Try.tyc56 : tyc Try.prog 56 = some (true, 4) := by kernel_rfl
theorem Try.load56 {h : AH} {b o : Nat} : aload Try.prog h 56 (.pointer (some ⟨b, o, none⟩)) = mkLoad o (some (true, 4)) h[b]? := aload_eq Try.tyc56
theorem Try.store56 {h : AH} {b o : Nat} {v : Value} : astore Try.prog h 56 (.pointer (some ⟨b, o, none⟩)) v = mkStore h b o v (some (true, 4)) h[b]? := astore_eq' Try.tyc56
theorem Try.some56 : (tyc Try.prog 56).isSome = true := by rw [Try.tyc56]; rfl
theorem Try.tyc57 : tyc Try.prog 57 = some (true, 0) := by kernel_rfl
theorem Try.load57 {h : AH} {b o : Nat} : aload Try.prog h 57 (.pointer (some ⟨b, o, none⟩)) = mkLoad o (some (true, 0)) h[b]? := aload_eq Try.tyc57
theorem Try.store57 {h : AH} {b o : Nat} {v : Value} : astore Try.prog h 57 (.pointer (some ⟨b, o, none⟩)) v = mkStore h b o v (some (true, 0)) h[b]? := astore_eq' Try.tyc57
theorem Try.some57 : (tyc Try.prog 57).isSome = true := by rw [Try.tyc57]; rfl
theorem Try.tyc58 : tyc Try.prog 58 = some (true, 0) := by kernel_rfl
theorem Try.load58 {h : AH} {b o : Nat} : aload Try.prog h 58 (.pointer (some ⟨b, o, none⟩)) = mkLoad o (some (true, 0)) h[b]? := aload_eq Try.tyc58
theorem Try.store58 {h : AH} {b o : Nat} {v : Value} : astore Try.prog h 58 (.pointer (some ⟨b, o, none⟩)) v = mkStore h b o v (some (true, 0)) h[b]? := astore_eq' Try.tyc58
theorem Try.some58 : (tyc Try.prog 58).isSome = true := by rw [Try.tyc58]; rfl
theorem Try.tyc59 : tyc Try.prog 59 = some (true, 0) := by kernel_rfl
theorem Try.load59 {h : AH} {b o : Nat} : aload Try.prog h 59 (.pointer (some ⟨b, o, none⟩)) = mkLoad o (some (true, 0)) h[b]? := aload_eq Try.tyc59
theorem Try.store59 {h : AH} {b o : Nat} {v : Value} : astore Try.prog h 59 (.pointer (some ⟨b, o, none⟩)) v = mkStore h b o v (some (true, 0)) h[b]? := astore_eq' Try.tyc59
theorem Try.some59 : (tyc Try.prog 59).isSome = true := by rw [Try.tyc59]; rfl
theorem Try.tyc60 : tyc Try.prog 60 = some (false, 1) := by kernel_rfl
theorem Try.load60 {h : AH} {b o : Nat} : aload Try.prog h 60 (.pointer (some ⟨b, o, none⟩)) = mkLoad o (some (false, 1)) h[b]? := aload_eq Try.tyc60
theorem Try.store60 {h : AH} {b o : Nat} {v : Value} : astore Try.prog h 60 (.pointer (some ⟨b, o, none⟩)) v = mkStore h b o v (some (false, 1)) h[b]? := astore_eq' Try.tyc60
theorem Try.some60 : (tyc Try.prog 60).isSome = true := by rw [Try.tyc60]; rfl
theorem Try.tyc61 : tyc Try.prog 61 = some (false, 1) := by kernel_rfl
theorem Try.load61 {h : AH} {b o : Nat} : aload Try.prog h 61 (.pointer (some ⟨b, o, none⟩)) = mkLoad o (some (false, 1)) h[b]? := aload_eq Try.tyc61
theorem Try.store61 {h : AH} {b o : Nat} {v : Value} : astore Try.prog h 61 (.pointer (some ⟨b, o, none⟩)) v = mkStore h b o v (some (false, 1)) h[b]? := astore_eq' Try.tyc61
theorem Try.some61 : (tyc Try.prog 61).isSome = true := by rw [Try.tyc61]; rfl
theorem Try.tyc62 : tyc Try.prog 62 = some (false, 1) := by kernel_rfl
theorem Try.load62 {h : AH} {b o : Nat} : aload Try.prog h 62 (.pointer (some ⟨b, o, none⟩)) = mkLoad o (some (false, 1)) h[b]? := aload_eq Try.tyc62
theorem Try.store62 {h : AH} {b o : Nat} {v : Value} : astore Try.prog h 62 (.pointer (some ⟨b, o, none⟩)) v = mkStore h b o v (some (false, 1)) h[b]? := astore_eq' Try.tyc62
theorem Try.some62 : (tyc Try.prog 62).isSome = true := by rw [Try.tyc62]; rfl
theorem Try.tyc63 : tyc Try.prog 63 = some (false, 1) := by kernel_rfl
theorem Try.load63 {h : AH} {b o : Nat} : aload Try.prog h 63 (.pointer (some ⟨b, o, none⟩)) = mkLoad o (some (false, 1)) h[b]? := aload_eq Try.tyc63
theorem Try.store63 {h : AH} {b o : Nat} {v : Value} : astore Try.prog h 63 (.pointer (some ⟨b, o, none⟩)) v = mkStore h b o v (some (false, 1)) h[b]? := astore_eq' Try.tyc63
theorem Try.some63 : (tyc Try.prog 63).isSome = true := by rw [Try.tyc63]; rfl
theorem Try.tyc64 : tyc Try.prog 64 = some (false, 1) := by kernel_rfl
theorem Try.load64 {h : AH} {b o : Nat} : aload Try.prog h 64 (.pointer (some ⟨b, o, none⟩)) = mkLoad o (some (false, 1)) h[b]? := aload_eq Try.tyc64
theorem Try.store64 {h : AH} {b o : Nat} {v : Value} : astore Try.prog h 64 (.pointer (some ⟨b, o, none⟩)) v = mkStore h b o v (some (false, 1)) h[b]? := astore_eq' Try.tyc64
theorem Try.some64 : (tyc Try.prog 64).isSome = true := by rw [Try.tyc64]; rfl
theorem Try.tyc65 : tyc Try.prog 65 = some (false, 1) := by kernel_rfl
theorem Try.load65 {h : AH} {b o : Nat} : aload Try.prog h 65 (.pointer (some ⟨b, o, none⟩)) = mkLoad o (some (false, 1)) h[b]? := aload_eq Try.tyc65
theorem Try.store65 {h : AH} {b o : Nat} {v : Value} : astore Try.prog h 65 (.pointer (some ⟨b, o, none⟩)) v = mkStore h b o v (some (false, 1)) h[b]? := astore_eq' Try.tyc65
theorem Try.some65 : (tyc Try.prog 65).isSome = true := by rw [Try.tyc65]; rfl
theorem Try.tyc66 : tyc Try.prog 66 = some (false, 1) := by kernel_rfl
theorem Try.load66 {h : AH} {b o : Nat} : aload Try.prog h 66 (.pointer (some ⟨b, o, none⟩)) = mkLoad o (some (false, 1)) h[b]? := aload_eq Try.tyc66
theorem Try.store66 {h : AH} {b o : Nat} {v : Value} : astore Try.prog h 66 (.pointer (some ⟨b, o, none⟩)) v = mkStore h b o v (some (false, 1)) h[b]? := astore_eq' Try.tyc66
theorem Try.some66 : (tyc Try.prog 66).isSome = true := by rw [Try.tyc66]; rfl
theorem Try.tyc67 : tyc Try.prog 67 = some (true, 11) := by kernel_rfl
theorem Try.load67 {h : AH} {b o : Nat} : aload Try.prog h 67 (.pointer (some ⟨b, o, none⟩)) = mkLoad o (some (true, 11)) h[b]? := aload_eq Try.tyc67
theorem Try.store67 {h : AH} {b o : Nat} {v : Value} : astore Try.prog h 67 (.pointer (some ⟨b, o, none⟩)) v = mkStore h b o v (some (true, 11)) h[b]? := astore_eq' Try.tyc67
theorem Try.some67 : (tyc Try.prog 67).isSome = true := by rw [Try.tyc67]; rfl
theorem Try.tyc68 : tyc Try.prog 68 = some (true, 11) := by kernel_rfl
theorem Try.load68 {h : AH} {b o : Nat} : aload Try.prog h 68 (.pointer (some ⟨b, o, none⟩)) = mkLoad o (some (true, 11)) h[b]? := aload_eq Try.tyc68
theorem Try.store68 {h : AH} {b o : Nat} {v : Value} : astore Try.prog h 68 (.pointer (some ⟨b, o, none⟩)) v = mkStore h b o v (some (true, 11)) h[b]? := astore_eq' Try.tyc68
theorem Try.some68 : (tyc Try.prog 68).isSome = true := by rw [Try.tyc68]; rfl
theorem Try.tyc69 : tyc Try.prog 69 = some (false, 1) := by kernel_rfl
theorem Try.load69 {h : AH} {b o : Nat} : aload Try.prog h 69 (.pointer (some ⟨b, o, none⟩)) = mkLoad o (some (false, 1)) h[b]? := aload_eq Try.tyc69
theorem Try.store69 {h : AH} {b o : Nat} {v : Value} : astore Try.prog h 69 (.pointer (some ⟨b, o, none⟩)) v = mkStore h b o v (some (false, 1)) h[b]? := astore_eq' Try.tyc69
theorem Try.some69 : (tyc Try.prog 69).isSome = true := by rw [Try.tyc69]; rfl
theorem Try.fld7_0 : fld Try.prog 7 0 = some (0, false, 1) := by kernel_rfl
theorem Try.fieldAddr7_0 {b o : Nat} : afieldAddr Try.prog 7 (.pointer (some ⟨b, o, none⟩)) 0 = mkFieldAddr b o (some (0, false, 1)) := afieldAddr_eq' Try.fld7_0
theorem Try.field7_0 {c : Array Value} : afield Try.prog 7 (.agg c) 0 = mkField c (some (0, false, 1)) := afield_eq' Try.fld7_0
theorem Try.fld7_1 : fld Try.prog 7 1 = some (1, false, 1) := by kernel_rfl
theorem Try.fieldAddr7_1 {b o : Nat} : afieldAddr Try.prog 7 (.pointer (some ⟨b, o, none⟩)) 1 = mkFieldAddr b o (some (1, false, 1)) := afieldAddr_eq' Try.fld7_1
theorem Try.field7_1 {c : Array Value} : afield Try.prog 7 (.agg c) 1 = mkField c (some (1, false, 1)) := afield_eq' Try.fld7_1
theorem Try.fld7_2 : fld Try.prog 7 2 = some (2, false, 1) := by kernel_rfl
theorem Try.fieldAddr7_2 {b o : Nat} : afieldAddr Try.prog 7 (.pointer (some ⟨b, o, none⟩)) 2 = mkFieldAddr b o (some (2, false, 1)) := afieldAddr_eq' Try.fld7_2
theorem Try.field7_2 {c : Array Value} : afield Try.prog 7 (.agg c) 2 = mkField c (some (2, false, 1)) := afield_eq' Try.fld7_2
theorem Try.fld7_3 : fld Try.prog 7 3 = some (3, false, 1) := by kernel_rfl
theorem Try.fieldAddr7_3 {b o : Nat} : afieldAddr Try.prog 7 (.pointer (some ⟨b, o, none⟩)) 3 = mkFieldAddr b o (some (3, false, 1)) := afieldAddr_eq' Try.fld7_3
theorem Try.field7_3 {c : Array Value} : afield Try.prog 7 (.agg c) 3 = mkField c (some (3, false, 1)) := afield_eq' Try.fld7_3
theorem Try.fld8_0 : fld Try.prog 8 0 = some (0, false, 1) := by kernel_rfl
theorem Try.fieldAddr8_0 {b o : Nat} : afieldAddr Try.prog 8 (.pointer (some ⟨b, o, none⟩)) 0 = mkFieldAddr b o (some (0, false, 1)) := afieldAddr_eq' Try.fld8_0
theorem Try.field8_0 {c : Array Value} : afield Try.prog 8 (.agg c) 0 = mkField c (some (0, false, 1)) := afield_eq' Try.fld8_0
theorem Try.fld8_1 : fld Try.prog 8 1 = some (1, false, 1) := by kernel_rfl
theorem Try.fieldAddr8_1 {b o : Nat} : afieldAddr Try.prog 8 (.pointer (some ⟨b, o, none⟩)) 1 = mkFieldAddr b o (some (1, false, 1)) := afieldAddr_eq' Try.fld8_1
theorem Try.field8_1 {c : Array Value} : afield Try.prog 8 (.agg c) 1 = mkField c (some (1, false, 1)) := afield_eq' Try.fld8_1
theorem Try.fld8_2 : fld Try.prog 8 2 = some (2, false, 1) := by kernel_rfl
theorem Try.fieldAddr8_2 {b o : Nat} : afieldAddr Try.prog 8 (.pointer (some ⟨b, o, none⟩)) 2 = mkFieldAddr b o (some (2, false, 1)) := afieldAddr_eq' Try.fld8_2
theorem Try.field8_2 {c : Array Value} : afield Try.prog 8 (.agg c) 2 = mkField c (some (2, false, 1)) := afield_eq' Try.fld8_2
theorem Try.fld8_3 : fld Try.prog 8 3 = some (3, false, 1) := by kernel_rfl
theorem Try.fieldAddr8_3 {b o : Nat} : afieldAddr Try.prog 8 (.pointer (some ⟨b, o, none⟩)) 3 = mkFieldAddr b o (some (3, false, 1)) := afieldAddr_eq' Try.fld8_3
theorem Try.field8_3 {c : Array Value} : afield Try.prog 8 (.agg c) 3 = mkField c (some (3, false, 1)) := afield_eq' Try.fld8_3
theorem Try.fld13_0 : fld Try.prog 13 0 = some (0, false, 1) := by kernel_rfl
theorem Try.fieldAddr13_0 {b o : Nat} : afieldAddr Try.prog 13 (.pointer (some ⟨b, o, none⟩)) 0 = mkFieldAddr b o (some (0, false, 1)) := afieldAddr_eq' Try.fld13_0
theorem Try.field13_0 {c : Array Value} : afield Try.prog 13 (.agg c) 0 = mkField c (some (0, false, 1)) := afield_eq' Try.fld13_0
theorem Try.fld13_1 : fld Try.prog 13 1 = some (1, false, 1) := by kernel_rfl
theorem Try.fieldAddr13_1 {b o : Nat} : afieldAddr Try.prog 13 (.pointer (some ⟨b, o, none⟩)) 1 = mkFieldAddr b o (some (1, false, 1)) := afieldAddr_eq' Try.fld13_1
theorem Try.field13_1 {c : Array Value} : afield Try.prog 13 (.agg c) 1 = mkField c (some (1, false, 1)) := afield_eq' Try.fld13_1
theorem Try.fld14_0 : fld Try.prog 14 0 = some (0, false, 1) := by kernel_rfl
theorem Try.fieldAddr14_0 {b o : Nat} : afieldAddr Try.prog 14 (.pointer (some ⟨b, o, none⟩)) 0 = mkFieldAddr b o (some (0, false, 1)) := afieldAddr_eq' Try.fld14_0
theorem Try.field14_0 {c : Array Value} : afield Try.prog 14 (.agg c) 0 = mkField c (some (0, false, 1)) := afield_eq' Try.fld14_0
theorem Try.fld14_1 : fld Try.prog 14 1 = some (1, false, 1) := by kernel_rfl
theorem Try.fieldAddr14_1 {b o : Nat} : afieldAddr Try.prog 14 (.pointer (some ⟨b, o, none⟩)) 1 = mkFieldAddr b o (some (1, false, 1)) := afieldAddr_eq' Try.fld14_1
theorem Try.field14_1 {c : Array Value} : afield Try.prog 14 (.agg c) 1 = mkField c (some (1, false, 1)) := afield_eq' Try.fld14_1
theorem Try.fld18_0 : fld Try.prog 18 0 = some (0, false, 1) := by kernel_rfl
theorem Try.fieldAddr18_0 {b o : Nat} : afieldAddr Try.prog 18 (.pointer (some ⟨b, o, none⟩)) 0 = mkFieldAddr b o (some (0, false, 1)) := afieldAddr_eq' Try.fld18_0
theorem Try.field18_0 {c : Array Value} : afield Try.prog 18 (.agg c) 0 = mkField c (some (0, false, 1)) := afield_eq' Try.fld18_0
theorem Try.fld19_0 : fld Try.prog 19 0 = some (0, false, 1) := by kernel_rfl
theorem Try.fieldAddr19_0 {b o : Nat} : afieldAddr Try.prog 19 (.pointer (some ⟨b, o, none⟩)) 0 = mkFieldAddr b o (some (0, false, 1)) := afieldAddr_eq' Try.fld19_0
theorem Try.field19_0 {c : Array Value} : afield Try.prog 19 (.agg c) 0 = mkField c (some (0, false, 1)) := afield_eq' Try.fld19_0
theorem Try.fld25_0 : fld Try.prog 25 0 = some (0, true, 20) := by kernel_rfl
theorem Try.fieldAddr25_0 {b o : Nat} : afieldAddr Try.prog 25 (.pointer (some ⟨b, o, none⟩)) 0 = mkFieldAddr b o (some (0, true, 20)) := afieldAddr_eq' Try.fld25_0
theorem Try.field25_0 {c : Array Value} : afield Try.prog 25 (.agg c) 0 = mkField c (some (0, true, 20)) := afield_eq' Try.fld25_0
theorem Try.fld25_1 : fld Try.prog 25 1 = some (20, false, 1) := by kernel_rfl
theorem Try.fieldAddr25_1 {b o : Nat} : afieldAddr Try.prog 25 (.pointer (some ⟨b, o, none⟩)) 1 = mkFieldAddr b o (some (20, false, 1)) := afieldAddr_eq' Try.fld25_1
theorem Try.field25_1 {c : Array Value} : afield Try.prog 25 (.agg c) 1 = mkField c (some (20, false, 1)) := afield_eq' Try.fld25_1
theorem Try.fld25_2 : fld Try.prog 25 2 = some (21, false, 1) := by kernel_rfl
theorem Try.fieldAddr25_2 {b o : Nat} : afieldAddr Try.prog 25 (.pointer (some ⟨b, o, none⟩)) 2 = mkFieldAddr b o (some (21, false, 1)) := afieldAddr_eq' Try.fld25_2
theorem Try.field25_2 {c : Array Value} : afield Try.prog 25 (.agg c) 2 = mkField c (some (21, false, 1)) := afield_eq' Try.fld25_2
theorem Try.fld26_0 : fld Try.prog 26 0 = some (0, true, 20) := by kernel_rfl
theorem Try.fieldAddr26_0 {b o : Nat} : afieldAddr Try.prog 26 (.pointer (some ⟨b, o, none⟩)) 0 = mkFieldAddr b o (some (0, true, 20)) := afieldAddr_eq' Try.fld26_0
theorem Try.field26_0 {c : Array Value} : afield Try.prog 26 (.agg c) 0 = mkField c (some (0, true, 20)) := afield_eq' Try.fld26_0
theorem Try.fld26_1 : fld Try.prog 26 1 = some (20, false, 1) := by kernel_rfl
theorem Try.fieldAddr26_1 {b o : Nat} : afieldAddr Try.prog 26 (.pointer (some ⟨b, o, none⟩)) 1 = mkFieldAddr b o (some (20, false, 1)) := afieldAddr_eq' Try.fld26_1
theorem Try.field26_1 {c : Array Value} : afield Try.prog 26 (.agg c) 1 = mkField c (some (20, false, 1)) := afield_eq' Try.fld26_1
theorem Try.fld26_2 : fld Try.prog 26 2 = some (21, false, 1) := by kernel_rfl
theorem Try.fieldAddr26_2 {b o : Nat} : afieldAddr Try.prog 26 (.pointer (some ⟨b, o, none⟩)) 2 = mkFieldAddr b o (some (21, false, 1)) := afieldAddr_eq' Try.fld26_2
theorem Try.field26_2 {c : Array Value} : afield Try.prog 26 (.agg c) 2 = mkField c (some (21, false, 1)) := afield_eq' Try.fld26_2
theorem Try.fld55_0 : fld Try.prog 55 0 = some (0, false, 1) := by kernel_rfl
theorem Try.fieldAddr55_0 {b o : Nat} : afieldAddr Try.prog 55 (.pointer (some ⟨b, o, none⟩)) 0 = mkFieldAddr b o (some (0, false, 1)) := afieldAddr_eq' Try.fld55_0
theorem Try.field55_0 {c : Array Value} : afield Try.prog 55 (.agg c) 0 = mkField c (some (0, false, 1)) := afield_eq' Try.fld55_0
theorem Try.fld55_1 : fld Try.prog 55 1 = some (1, false, 1) := by kernel_rfl
theorem Try.fieldAddr55_1 {b o : Nat} : afieldAddr Try.prog 55 (.pointer (some ⟨b, o, none⟩)) 1 = mkFieldAddr b o (some (1, false, 1)) := afieldAddr_eq' Try.fld55_1
theorem Try.field55_1 {c : Array Value} : afield Try.prog 55 (.agg c) 1 = mkField c (some (1, false, 1)) := afield_eq' Try.fld55_1
theorem Try.fld55_2 : fld Try.prog 55 2 = some (2, false, 1) := by kernel_rfl
theorem Try.fieldAddr55_2 {b o : Nat} : afieldAddr Try.prog 55 (.pointer (some ⟨b, o, none⟩)) 2 = mkFieldAddr b o (some (2, false, 1)) := afieldAddr_eq' Try.fld55_2
theorem Try.field55_2 {c : Array Value} : afield Try.prog 55 (.agg c) 2 = mkField c (some (2, false, 1)) := afield_eq' Try.fld55_2
theorem Try.fld55_3 : fld Try.prog 55 3 = some (3, false, 1) := by kernel_rfl
theorem Try.fieldAddr55_3 {b o : Nat} : afieldAddr Try.prog 55 (.pointer (some ⟨b, o, none⟩)) 3 = mkFieldAddr b o (some (3, false, 1)) := afieldAddr_eq' Try.fld55_3
theorem Try.field55_3 {c : Array Value} : afield Try.prog 55 (.agg c) 3 = mkField c (some (3, false, 1)) := afield_eq' Try.fld55_3
theorem Try.fld56_0 : fld Try.prog 56 0 = some (0, false, 1) := by kernel_rfl
theorem Try.fieldAddr56_0 {b o : Nat} : afieldAddr Try.prog 56 (.pointer (some ⟨b, o, none⟩)) 0 = mkFieldAddr b o (some (0, false, 1)) := afieldAddr_eq' Try.fld56_0
theorem Try.field56_0 {c : Array Value} : afield Try.prog 56 (.agg c) 0 = mkField c (some (0, false, 1)) := afield_eq' Try.fld56_0
theorem Try.fld56_1 : fld Try.prog 56 1 = some (1, false, 1) := by kernel_rfl
theorem Try.fieldAddr56_1 {b o : Nat} : afieldAddr Try.prog 56 (.pointer (some ⟨b, o, none⟩)) 1 = mkFieldAddr b o (some (1, false, 1)) := afieldAddr_eq' Try.fld56_1
theorem Try.field56_1 {c : Array Value} : afield Try.prog 56 (.agg c) 1 = mkField c (some (1, false, 1)) := afield_eq' Try.fld56_1
theorem Try.fld56_2 : fld Try.prog 56 2 = some (2, false, 1) := by kernel_rfl
theorem Try.fieldAddr56_2 {b o : Nat} : afieldAddr Try.prog 56 (.pointer (some ⟨b, o, none⟩)) 2 = mkFieldAddr b o (some (2, false, 1)) := afieldAddr_eq' Try.fld56_2
theorem Try.field56_2 {c : Array Value} : afield Try.prog 56 (.agg c) 2 = mkField c (some (2, false, 1)) := afield_eq' Try.fld56_2
theorem Try.fld56_3 : fld Try.prog 56 3 = some (3, false, 1) := by kernel_rfl
theorem Try.fieldAddr56_3 {b o : Nat} : afieldAddr Try.prog 56 (.pointer (some ⟨b, o, none⟩)) 3 = mkFieldAddr b o (some (3, false, 1)) := afieldAddr_eq' Try.fld56_3
theorem Try.field56_3 {c : Array Value} : afield Try.prog 56 (.agg c) 3 = mkField c (some (3, false, 1)) := afield_eq' Try.fld56_3
theorem Try.fld58_0 : fld Try.prog 58 0 = some (0, true, 0) := by kernel_rfl
theorem Try.fieldAddr58_0 {b o : Nat} : afieldAddr Try.prog 58 (.pointer (some ⟨b, o, none⟩)) 0 = mkFieldAddr b o (some (0, true, 0)) := afieldAddr_eq' Try.fld58_0
theorem Try.field58_0 {c : Array Value} : afield Try.prog 58 (.agg c) 0 = mkField c (some (0, true, 0)) := afield_eq' Try.fld58_0
theorem Try.fld59_0 : fld Try.prog 59 0 = some (0, true, 0) := by kernel_rfl
theorem Try.fieldAddr59_0 {b o : Nat} : afieldAddr Try.prog 59 (.pointer (some ⟨b, o, none⟩)) 0 = mkFieldAddr b o (some (0, true, 0)) := afieldAddr_eq' Try.fld59_0
theorem Try.field59_0 {c : Array Value} : afield Try.prog 59 (.agg c) 0 = mkField c (some (0, true, 0)) := afield_eq' Try.fld59_0
theorem Try.fld67_0 : fld Try.prog 67 0 = some (0, false, 1) := by kernel_rfl
theorem Try.fieldAddr67_0 {b o : Nat} : afieldAddr Try.prog 67 (.pointer (some ⟨b, o, none⟩)) 0 = mkFieldAddr b o (some (0, false, 1)) := afieldAddr_eq' Try.fld67_0
theorem Try.field67_0 {c : Array Value} : afield Try.prog 67 (.agg c) 0 = mkField c (some (0, false, 1)) := afield_eq' Try.fld67_0
theorem Try.fld67_1 : fld Try.prog 67 1 = some (1, false, 1) := by kernel_rfl
theorem Try.fieldAddr67_1 {b o : Nat} : afieldAddr Try.prog 67 (.pointer (some ⟨b, o, none⟩)) 1 = mkFieldAddr b o (some (1, false, 1)) := afieldAddr_eq' Try.fld67_1
theorem Try.field67_1 {c : Array Value} : afield Try.prog 67 (.agg c) 1 = mkField c (some (1, false, 1)) := afield_eq' Try.fld67_1
theorem Try.fld67_2 : fld Try.prog 67 2 = some (2, false, 1) := by kernel_rfl
theorem Try.fieldAddr67_2 {b o : Nat} : afieldAddr Try.prog 67 (.pointer (some ⟨b, o, none⟩)) 2 = mkFieldAddr b o (some (2, false, 1)) := afieldAddr_eq' Try.fld67_2
theorem Try.field67_2 {c : Array Value} : afield Try.prog 67 (.agg c) 2 = mkField c (some (2, false, 1)) := afield_eq' Try.fld67_2
theorem Try.fld67_3 : fld Try.prog 67 3 = some (3, false, 1) := by kernel_rfl
theorem Try.fieldAddr67_3 {b o : Nat} : afieldAddr Try.prog 67 (.pointer (some ⟨b, o, none⟩)) 3 = mkFieldAddr b o (some (3, false, 1)) := afieldAddr_eq' Try.fld67_3
theorem Try.field67_3 {c : Array Value} : afield Try.prog 67 (.agg c) 3 = mkField c (some (3, false, 1)) := afield_eq' Try.fld67_3
theorem Try.fld67_4 : fld Try.prog 67 4 = some (4, false, 1) := by kernel_rfl
theorem Try.fieldAddr67_4 {b o : Nat} : afieldAddr Try.prog 67 (.pointer (some ⟨b, o, none⟩)) 4 = mkFieldAddr b o (some (4, false, 1)) := afieldAddr_eq' Try.fld67_4
theorem Try.field67_4 {c : Array Value} : afield Try.prog 67 (.agg c) 4 = mkField c (some (4, false, 1)) := afield_eq' Try.fld67_4
theorem Try.fld67_5 : fld Try.prog 67 5 = some (5, false, 1) := by kernel_rfl
theorem Try.fieldAddr67_5 {b o : Nat} : afieldAddr Try.prog 67 (.pointer (some ⟨b, o, none⟩)) 5 = mkFieldAddr b o (some (5, false, 1)) := afieldAddr_eq' Try.fld67_5
theorem Try.field67_5 {c : Array Value} : afield Try.prog 67 (.agg c) 5 = mkField c (some (5, false, 1)) := afield_eq' Try.fld67_5
theorem Try.fld67_6 : fld Try.prog 67 6 = some (6, false, 1) := by kernel_rfl
theorem Try.fieldAddr67_6 {b o : Nat} : afieldAddr Try.prog 67 (.pointer (some ⟨b, o, none⟩)) 6 = mkFieldAddr b o (some (6, false, 1)) := afieldAddr_eq' Try.fld67_6
theorem Try.field67_6 {c : Array Value} : afield Try.prog 67 (.agg c) 6 = mkField c (some (6, false, 1)) := afield_eq' Try.fld67_6
theorem Try.fld67_7 : fld Try.prog 67 7 = some (7, false, 1) := by kernel_rfl
theorem Try.fieldAddr67_7 {b o : Nat} : afieldAddr Try.prog 67 (.pointer (some ⟨b, o, none⟩)) 7 = mkFieldAddr b o (some (7, false, 1)) := afieldAddr_eq' Try.fld67_7
theorem Try.field67_7 {c : Array Value} : afield Try.prog 67 (.agg c) 7 = mkField c (some (7, false, 1)) := afield_eq' Try.fld67_7
theorem Try.fld67_8 : fld Try.prog 67 8 = some (8, false, 1) := by kernel_rfl
theorem Try.fieldAddr67_8 {b o : Nat} : afieldAddr Try.prog 67 (.pointer (some ⟨b, o, none⟩)) 8 = mkFieldAddr b o (some (8, false, 1)) := afieldAddr_eq' Try.fld67_8
theorem Try.field67_8 {c : Array Value} : afield Try.prog 67 (.agg c) 8 = mkField c (some (8, false, 1)) := afield_eq' Try.fld67_8
theorem Try.fld67_9 : fld Try.prog 67 9 = some (9, false, 1) := by kernel_rfl
theorem Try.fieldAddr67_9 {b o : Nat} : afieldAddr Try.prog 67 (.pointer (some ⟨b, o, none⟩)) 9 = mkFieldAddr b o (some (9, false, 1)) := afieldAddr_eq' Try.fld67_9
theorem Try.field67_9 {c : Array Value} : afield Try.prog 67 (.agg c) 9 = mkField c (some (9, false, 1)) := afield_eq' Try.fld67_9
theorem Try.fld67_10 : fld Try.prog 67 10 = some (10, false, 1) := by kernel_rfl
theorem Try.fieldAddr67_10 {b o : Nat} : afieldAddr Try.prog 67 (.pointer (some ⟨b, o, none⟩)) 10 = mkFieldAddr b o (some (10, false, 1)) := afieldAddr_eq' Try.fld67_10
theorem Try.field67_10 {c : Array Value} : afield Try.prog 67 (.agg c) 10 = mkField c (some (10, false, 1)) := afield_eq' Try.fld67_10
theorem Try.fld68_0 : fld Try.prog 68 0 = some (0, false, 1) := by kernel_rfl
theorem Try.fieldAddr68_0 {b o : Nat} : afieldAddr Try.prog 68 (.pointer (some ⟨b, o, none⟩)) 0 = mkFieldAddr b o (some (0, false, 1)) := afieldAddr_eq' Try.fld68_0
theorem Try.field68_0 {c : Array Value} : afield Try.prog 68 (.agg c) 0 = mkField c (some (0, false, 1)) := afield_eq' Try.fld68_0
theorem Try.fld68_1 : fld Try.prog 68 1 = some (1, false, 1) := by kernel_rfl
theorem Try.fieldAddr68_1 {b o : Nat} : afieldAddr Try.prog 68 (.pointer (some ⟨b, o, none⟩)) 1 = mkFieldAddr b o (some (1, false, 1)) := afieldAddr_eq' Try.fld68_1
theorem Try.field68_1 {c : Array Value} : afield Try.prog 68 (.agg c) 1 = mkField c (some (1, false, 1)) := afield_eq' Try.fld68_1
theorem Try.fld68_2 : fld Try.prog 68 2 = some (2, false, 1) := by kernel_rfl
theorem Try.fieldAddr68_2 {b o : Nat} : afieldAddr Try.prog 68 (.pointer (some ⟨b, o, none⟩)) 2 = mkFieldAddr b o (some (2, false, 1)) := afieldAddr_eq' Try.fld68_2
theorem Try.field68_2 {c : Array Value} : afield Try.prog 68 (.agg c) 2 = mkField c (some (2, false, 1)) := afield_eq' Try.fld68_2
theorem Try.fld68_3 : fld Try.prog 68 3 = some (3, false, 1) := by kernel_rfl
theorem Try.fieldAddr68_3 {b o : Nat} : afieldAddr Try.prog 68 (.pointer (some ⟨b, o, none⟩)) 3 = mkFieldAddr b o (some (3, false, 1)) := afieldAddr_eq' Try.fld68_3
theorem Try.field68_3 {c : Array Value} : afield Try.prog 68 (.agg c) 3 = mkField c (some (3, false, 1)) := afield_eq' Try.fld68_3
theorem Try.fld68_4 : fld Try.prog 68 4 = some (4, false, 1) := by kernel_rfl
theorem Try.fieldAddr68_4 {b o : Nat} : afieldAddr Try.prog 68 (.pointer (some ⟨b, o, none⟩)) 4 = mkFieldAddr b o (some (4, false, 1)) := afieldAddr_eq' Try.fld68_4
theorem Try.field68_4 {c : Array Value} : afield Try.prog 68 (.agg c) 4 = mkField c (some (4, false, 1)) := afield_eq' Try.fld68_4
theorem Try.fld68_5 : fld Try.prog 68 5 = some (5, false, 1) := by kernel_rfl
theorem Try.fieldAddr68_5 {b o : Nat} : afieldAddr Try.prog 68 (.pointer (some ⟨b, o, none⟩)) 5 = mkFieldAddr b o (some (5, false, 1)) := afieldAddr_eq' Try.fld68_5
theorem Try.field68_5 {c : Array Value} : afield Try.prog 68 (.agg c) 5 = mkField c (some (5, false, 1)) := afield_eq' Try.fld68_5
theorem Try.fld68_6 : fld Try.prog 68 6 = some (6, false, 1) := by kernel_rfl
theorem Try.fieldAddr68_6 {b o : Nat} : afieldAddr Try.prog 68 (.pointer (some ⟨b, o, none⟩)) 6 = mkFieldAddr b o (some (6, false, 1)) := afieldAddr_eq' Try.fld68_6
theorem Try.field68_6 {c : Array Value} : afield Try.prog 68 (.agg c) 6 = mkField c (some (6, false, 1)) := afield_eq' Try.fld68_6
theorem Try.fld68_7 : fld Try.prog 68 7 = some (7, false, 1) := by kernel_rfl
theorem Try.fieldAddr68_7 {b o : Nat} : afieldAddr Try.prog 68 (.pointer (some ⟨b, o, none⟩)) 7 = mkFieldAddr b o (some (7, false, 1)) := afieldAddr_eq' Try.fld68_7
theorem Try.field68_7 {c : Array Value} : afield Try.prog 68 (.agg c) 7 = mkField c (some (7, false, 1)) := afield_eq' Try.fld68_7
theorem Try.fld68_8 : fld Try.prog 68 8 = some (8, false, 1) := by kernel_rfl
theorem Try.fieldAddr68_8 {b o : Nat} : afieldAddr Try.prog 68 (.pointer (some ⟨b, o, none⟩)) 8 = mkFieldAddr b o (some (8, false, 1)) := afieldAddr_eq' Try.fld68_8
theorem Try.field68_8 {c : Array Value} : afield Try.prog 68 (.agg c) 8 = mkField c (some (8, false, 1)) := afield_eq' Try.fld68_8
theorem Try.fld68_9 : fld Try.prog 68 9 = some (9, false, 1) := by kernel_rfl
theorem Try.fieldAddr68_9 {b o : Nat} : afieldAddr Try.prog 68 (.pointer (some ⟨b, o, none⟩)) 9 = mkFieldAddr b o (some (9, false, 1)) := afieldAddr_eq' Try.fld68_9
theorem Try.field68_9 {c : Array Value} : afield Try.prog 68 (.agg c) 9 = mkField c (some (9, false, 1)) := afield_eq' Try.fld68_9
theorem Try.fld68_10 : fld Try.prog 68 10 = some (10, false, 1) := by kernel_rfl
theorem Try.fieldAddr68_10 {b o : Nat} : afieldAddr Try.prog 68 (.pointer (some ⟨b, o, none⟩)) 10 = mkFieldAddr b o (some (10, false, 1)) := afieldAddr_eq' Try.fld68_10
theorem Try.field68_10 {c : Array Value} : afield Try.prog 68 (.agg c) 10 = mkField c (some (10, false, 1)) := afield_eq' Try.fld68_10
theorem Try.zero1 : zeroCellsOf Try.prog 1 = some (#[Value.nilFunc]) := by kernel_rfl
theorem Try.alloc1 {h : AH} : aalloc Try.prog h 1 = mkAlloc h (some (#[Value.nilFunc])) := aalloc_eq' Try.zero1
theorem Try.zero2 : zeroCellsOf Try.prog 2 = some (#[Value.int IntKind.i64 (0)]) := by kernel_rfl
theorem Try.alloc2 {h : AH} : aalloc Try.prog h 2 = mkAlloc h (some (#[Value.int IntKind.i64 (0)])) := aalloc_eq' Try.zero2
theorem Try.zero3 : zeroCellsOf Try.prog 3 = some (#[Value.int IntKind.i64 (0)]) := by kernel_rfl
theorem Try.alloc3 {h : AH} : aalloc Try.prog h 3 = mkAlloc h (some (#[Value.int IntKind.i64 (0)])) := aalloc_eq' Try.zero3
theorem Try.zero4 : zeroCellsOf Try.prog 4 = some (#[Value.bool false]) := by kernel_rfl
theorem Try.alloc4 {h : AH} : aalloc Try.prog h 4 = mkAlloc h (some (#[Value.bool false])) := aalloc_eq' Try.zero4
theorem Try.zero5 : zeroCellsOf Try.prog 5 = some (#[Value.int IntKind.u8 (0)]) := by kernel_rfl
theorem Try.alloc5 {h : AH} : aalloc Try.prog h 5 = mkAlloc h (some (#[Value.int IntKind.u8 (0)])) := aalloc_eq' Try.zero5
theorem Try.zero6 : zeroCellsOf Try.prog 6 = some (#[Value.int IntKind.u8 (0)]) := by kernel_rfl
theorem Try.alloc6 {h : AH} : aalloc Try.prog h 6 = mkAlloc h (some (#[Value.int IntKind.u8 (0)])) := aalloc_eq' Try.zero6
theorem Try.zero7 : zeroCellsOf Try.prog 7 = some (#[Value.int IntKind.i64 (0), Value.int IntKind.i64 (0), Value.bool false, Value.int IntKind.u8 (0)]) := by kernel_rfl
theorem Try.alloc7 {h : AH} : aalloc Try.prog h 7 = mkAlloc h (some (#[Value.int IntKind.i64 (0), Value.int IntKind.i64 (0), Value.bool false, Value.int IntKind.u8 (0)])) := aalloc_eq' Try.zero7
theorem Try.zero8 : zeroCellsOf Try.prog 8 = some (#[Value.int IntKind.i64 (0), Value.int IntKind.i64 (0), Value.bool false, Value.int IntKind.u8 (0)]) := by kernel_rfl
theorem Try.alloc8 {h : AH} : aalloc Try.prog h 8 = mkAlloc h (some (#[Value.int IntKind.i64 (0), Value.int IntKind.i64 (0), Value.bool false, Value.int IntKind.u8 (0)])) := aalloc_eq' Try.zero8
theorem Try.zero9 : zeroCellsOf Try.prog 9 = some (#[Value.string { data := { toList := [] } }]) := by kernel_rfl
theorem Try.alloc9 {h : AH} : aalloc Try.prog h 9 = mkAlloc h (some (#[Value.string { data := { toList := [] } }])) := aalloc_eq' Try.zero9
theorem Try.zero10 : zeroCellsOf Try.prog 10 = some (#[Value.string { data := { toList := [] } }]) := by kernel_rfl
theorem Try.alloc10 {h : AH} : aalloc Try.prog h 10 = mkAlloc h (some (#[Value.string { data := { toList := [] } }])) := aalloc_eq' Try.zero10
theorem Try.zero11 : zeroCellsOf Try.prog 11 = some (#[Value.string { data := { toList := [] } }]) := by kernel_rfl
theorem Try.alloc11 {h : AH} : aalloc Try.prog h 11 = mkAlloc h (some (#[Value.string { data := { toList := [] } }])) := aalloc_eq' Try.zero11
theorem Try.zero12 : zeroCellsOf Try.prog 12 = some (#[Value.int IntKind.u64 (0)]) := by kernel_rfl
theorem Try.alloc12 {h : AH} : aalloc Try.prog h 12 = mkAlloc h (some (#[Value.int IntKind.u64 (0)])) := aalloc_eq' Try.zero12
theorem Try.zero13 : zeroCellsOf Try.prog 13 = some (#[Value.string { data := { toList := [] } }, Value.int IntKind.u64 (0)]) := by kernel_rfl
theorem Try.alloc13 {h : AH} : aalloc Try.prog h 13 = mkAlloc h (some (#[Value.string { data := { toList := [] } }, Value.int IntKind.u64 (0)])) := aalloc_eq' Try.zero13
theorem Try.zero14 : zeroCellsOf Try.prog 14 = some (#[Value.string { data := { toList := [] } }, Value.int IntKind.u64 (0)]) := by kernel_rfl
theorem Try.alloc14 {h : AH} : aalloc Try.prog h 14 = mkAlloc h (some (#[Value.string { data := { toList := [] } }, Value.int IntKind.u64 (0)])) := aalloc_eq' Try.zero14
theorem Try.zero15 : zeroCellsOf Try.prog 15 = some (#[Value.pointer none]) := by kernel_rfl
theorem Try.alloc15 {h : AH} : aalloc Try.prog h 15 = mkAlloc h (some (#[Value.pointer none])) := aalloc_eq' Try.zero15
theorem Try.zero16 : zeroCellsOf Try.prog 16 = some (#[Value.pointer none]) := by kernel_rfl
theorem Try.alloc16 {h : AH} : aalloc Try.prog h 16 = mkAlloc h (some (#[Value.pointer none])) := aalloc_eq' Try.zero16
theorem Try.zero17 : zeroCellsOf Try.prog 17 = some (#[Value.pointer none]) := by kernel_rfl
theorem Try.alloc17 {h : AH} : aalloc Try.prog h 17 = mkAlloc h (some (#[Value.pointer none])) := aalloc_eq' Try.zero17
theorem Try.zero18 : zeroCellsOf Try.prog 18 = some (#[Value.pointer none]) := by kernel_rfl
theorem Try.alloc18 {h : AH} : aalloc Try.prog h 18 = mkAlloc h (some (#[Value.pointer none])) := aalloc_eq' Try.zero18
theorem Try.zero19 : zeroCellsOf Try.prog 19 = some (#[Value.pointer none]) := by kernel_rfl
theorem Try.alloc19 {h : AH} : aalloc Try.prog h 19 = mkAlloc h (some (#[Value.pointer none])) := aalloc_eq' Try.zero19
theorem Try.zero20 : zeroCellsOf Try.prog 20 = some (#[Value.nilIface]) := by kernel_rfl
theorem Try.alloc20 {h : AH} : aalloc Try.prog h 20 = mkAlloc h (some (#[Value.nilIface])) := aalloc_eq' Try.zero20
theorem Try.zero21 : zeroCellsOf Try.prog 21 = some (#[Value.int IntKind.i32 (0)]) := by kernel_rfl
theorem Try.alloc21 {h : AH} : aalloc Try.prog h 21 = mkAlloc h (some (#[Value.int IntKind.i32 (0)])) := aalloc_eq' Try.zero21
theorem Try.zero22 : zeroCellsOf Try.prog 22 = some ((Array.replicate 20 (Value.int IntKind.u8 (0)))) := by kernel_rfl
theorem Try.alloc22 {h : AH} : aalloc Try.prog h 22 = mkAlloc h (some ((Array.replicate 20 (Value.int IntKind.u8 (0))))) := aalloc_eq' Try.zero22
theorem Try.zero23 : zeroCellsOf Try.prog 23 = some ((Array.replicate 20 (Value.int IntKind.u8 (0)))) := by kernel_rfl
theorem Try.alloc23 {h : AH} : aalloc Try.prog h 23 = mkAlloc h (some ((Array.replicate 20 (Value.int IntKind.u8 (0))))) := aalloc_eq' Try.zero23
theorem Try.zero24 : zeroCellsOf Try.prog 24 = some (#[Value.int IntKind.u64 (0)]) := by kernel_rfl
theorem Try.alloc24 {h : AH} : aalloc Try.prog h 24 = mkAlloc h (some (#[Value.int IntKind.u64 (0)])) := aalloc_eq' Try.zero24
theorem Try.zero25 : zeroCellsOf Try.prog 25 = some ((Array.replicate 20 (Value.int IntKind.u8 (0))) ++ (#[Value.int IntKind.u64 (0), Value.int IntKind.u64 (0)])) := by kernel_rfl
theorem Try.alloc25 {h : AH} : aalloc Try.prog h 25 = mkAlloc h (some ((Array.replicate 20 (Value.int IntKind.u8 (0))) ++ (#[Value.int IntKind.u64 (0), Value.int IntKind.u64 (0)]))) := aalloc_eq' Try.zero25
theorem Try.zero26 : zeroCellsOf Try.prog 26 = some ((Array.replicate 20 (Value.int IntKind.u8 (0))) ++ (#[Value.int IntKind.u64 (0), Value.int IntKind.u64 (0)])) := by kernel_rfl
theorem Try.alloc26 {h : AH} : aalloc Try.prog h 26 = mkAlloc h (some ((Array.replicate 20 (Value.int IntKind.u8 (0))) ++ (#[Value.int IntKind.u64 (0), Value.int IntKind.u64 (0)]))) := aalloc_eq' Try.zero26
theorem Try.zero27 : zeroCellsOf Try.prog 27 = some (#[Value.nilFunc]) := by kernel_rfl
theorem Try.alloc27 {h : AH} : aalloc Try.prog h 27 = mkAlloc h (some (#[Value.nilFunc])) := aalloc_eq' Try.zero27
theorem Try.zero28 : zeroCellsOf Try.prog 28 = some (#[Value.nilFunc]) := by kernel_rfl
theorem Try.alloc28 {h : AH} : aalloc Try.prog h 28 = mkAlloc h (some (#[Value.nilFunc])) := aalloc_eq' Try.zero28
theorem Try.zero29 : zeroCellsOf Try.prog 29 = some (#[Value.nilFunc]) := by kernel_rfl
theorem Try.alloc29 {h : AH} : aalloc Try.prog h 29 = mkAlloc h (some (#[Value.nilFunc])) := aalloc_eq' Try.zero29
theorem Try.zero30 : zeroCellsOf Try.prog 30 = some (#[Value.nilFunc]) := by kernel_rfl
theorem Try.alloc30 {h : AH} : aalloc Try.prog h 30 = mkAlloc h (some (#[Value.nilFunc])) := aalloc_eq' Try.zero30
theorem Try.zero31 : zeroCellsOf Try.prog 31 = some (#[Value.int IntKind.u32 (0)]) := by kernel_rfl
theorem Try.alloc31 {h : AH} : aalloc Try.prog h 31 = mkAlloc h (some (#[Value.int IntKind.u32 (0)])) := aalloc_eq' Try.zero31
theorem Try.zero32 : zeroCellsOf Try.prog 32 = some (#[Value.nilFunc]) := by kernel_rfl
theorem Try.alloc32 {h : AH} : aalloc Try.prog h 32 = mkAlloc h (some (#[Value.nilFunc])) := aalloc_eq' Try.zero32
theorem Try.zero33 : zeroCellsOf Try.prog 33 = some (#[Value.slice none 0 0]) := by kernel_rfl
theorem Try.alloc33 {h : AH} : aalloc Try.prog h 33 = mkAlloc h (some (#[Value.slice none 0 0])) := aalloc_eq' Try.zero33
theorem Try.zero34 : zeroCellsOf Try.prog 34 = some (#[Value.nilFunc]) := by kernel_rfl
theorem Try.alloc34 {h : AH} : aalloc Try.prog h 34 = mkAlloc h (some (#[Value.nilFunc])) := aalloc_eq' Try.zero34
theorem Try.zero35 : zeroCellsOf Try.prog 35 = some (#[Value.nilFunc]) := by kernel_rfl
theorem Try.alloc35 {h : AH} : aalloc Try.prog h 35 = mkAlloc h (some (#[Value.nilFunc])) := aalloc_eq' Try.zero35
theorem Try.zero36 : zeroCellsOf Try.prog 36 = some (#[Value.nilFunc]) := by kernel_rfl
theorem Try.alloc36 {h : AH} : aalloc Try.prog h 36 = mkAlloc h (some (#[Value.nilFunc])) := aalloc_eq' Try.zero36
theorem Try.zero37 : zeroCellsOf Try.prog 37 = some (#[Value.slice none 0 0]) := by kernel_rfl
theorem Try.alloc37 {h : AH} : aalloc Try.prog h 37 = mkAlloc h (some (#[Value.slice none 0 0])) := aalloc_eq' Try.zero37
theorem Try.zero38 : zeroCellsOf Try.prog 38 = some (#[Value.nilFunc]) := by kernel_rfl
theorem Try.alloc38 {h : AH} : aalloc Try.prog h 38 = mkAlloc h (some (#[Value.nilFunc])) := aalloc_eq' Try.zero38
theorem Try.zero39 : zeroCellsOf Try.prog 39 = some (#[Value.nilFunc]) := by kernel_rfl
theorem Try.alloc39 {h : AH} : aalloc Try.prog h 39 = mkAlloc h (some (#[Value.nilFunc])) := aalloc_eq' Try.zero39
theorem Try.zero41 : zeroCellsOf Try.prog 41 = some (#[Value.nilFunc]) := by kernel_rfl
theorem Try.alloc41 {h : AH} : aalloc Try.prog h 41 = mkAlloc h (some (#[Value.nilFunc])) := aalloc_eq' Try.zero41
theorem Try.zero42 : zeroCellsOf Try.prog 42 = some (#[Value.nilFunc]) := by kernel_rfl
theorem Try.alloc42 {h : AH} : aalloc Try.prog h 42 = mkAlloc h (some (#[Value.nilFunc])) := aalloc_eq' Try.zero42
theorem Try.zero43 : zeroCellsOf Try.prog 43 = some (#[Value.nilFunc]) := by kernel_rfl
theorem Try.alloc43 {h : AH} : aalloc Try.prog h 43 = mkAlloc h (some (#[Value.nilFunc])) := aalloc_eq' Try.zero43
theorem Try.zero44 : zeroCellsOf Try.prog 44 = some (#[Value.nilFunc]) := by kernel_rfl
theorem Try.alloc44 {h : AH} : aalloc Try.prog h 44 = mkAlloc h (some (#[Value.nilFunc])) := aalloc_eq' Try.zero44
theorem Try.zero45 : zeroCellsOf Try.prog 45 = some (#[Value.nilFunc]) := by kernel_rfl
theorem Try.alloc45 {h : AH} : aalloc Try.prog h 45 = mkAlloc h (some (#[Value.nilFunc])) := aalloc_eq' Try.zero45
theorem Try.zero46 : zeroCellsOf Try.prog 46 = some (#[Value.slice none 0 0]) := by kernel_rfl
theorem Try.alloc46 {h : AH} : aalloc Try.prog h 46 = mkAlloc h (some (#[Value.slice none 0 0])) := aalloc_eq' Try.zero46
theorem Try.zero47 : zeroCellsOf Try.prog 47 = some (#[Value.nilFunc]) := by kernel_rfl
theorem Try.alloc47 {h : AH} : aalloc Try.prog h 47 = mkAlloc h (some (#[Value.nilFunc])) := aalloc_eq' Try.zero47
theorem Try.zero48 : zeroCellsOf Try.prog 48 = some (#[Value.nilFunc]) := by kernel_rfl
theorem Try.alloc48 {h : AH} : aalloc Try.prog h 48 = mkAlloc h (some (#[Value.nilFunc])) := aalloc_eq' Try.zero48
theorem Try.zero49 : zeroCellsOf Try.prog 49 = some (#[Value.nilFunc]) := by kernel_rfl
theorem Try.alloc49 {h : AH} : aalloc Try.prog h 49 = mkAlloc h (some (#[Value.nilFunc])) := aalloc_eq' Try.zero49
theorem Try.zero50 : zeroCellsOf Try.prog 50 = some (#[Value.int IntKind.u64 (0)]) := by kernel_rfl
theorem Try.alloc50 {h : AH} : aalloc Try.prog h 50 = mkAlloc h (some (#[Value.int IntKind.u64 (0)])) := aalloc_eq' Try.zero50
theorem Try.zero51 : zeroCellsOf Try.prog 51 = some (#[Value.nilFunc]) := by kernel_rfl
theorem Try.alloc51 {h : AH} : aalloc Try.prog h 51 = mkAlloc h (some (#[Value.nilFunc])) := aalloc_eq' Try.zero51
theorem Try.zero52 : zeroCellsOf Try.prog 52 = some (#[Value.nilFunc]) := by kernel_rfl
theorem Try.alloc52 {h : AH} : aalloc Try.prog h 52 = mkAlloc h (some (#[Value.nilFunc])) := aalloc_eq' Try.zero52
theorem Try.zero53 : zeroCellsOf Try.prog 53 = some (#[Value.nilFunc]) := by kernel_rfl
theorem Try.alloc53 {h : AH} : aalloc Try.prog h 53 = mkAlloc h (some (#[Value.nilFunc])) := aalloc_eq' Try.zero53
theorem Try.zero54 : zeroCellsOf Try.prog 54 = some (#[Value.nilFunc]) := by kernel_rfl
theorem Try.alloc54 {h : AH} : aalloc Try.prog h 54 = mkAlloc h (some (#[Value.nilFunc])) := aalloc_eq' Try.zero54
theorem Try.zero55 : zeroCellsOf Try.prog 55 = some (#[Value.pointer none, Value.pointer none, Value.pointer none, Value.string { data := { toList := [] } }]) := by kernel_rfl
theorem Try.alloc55 {h : AH} : aalloc Try.prog h 55 = mkAlloc h (some (#[Value.pointer none, Value.pointer none, Value.pointer none, Value.string { data := { toList := [] } }])) := aalloc_eq' Try.zero55
theorem Try.zero56 : zeroCellsOf Try.prog 56 = some (#[Value.pointer none, Value.pointer none, Value.pointer none, Value.string { data := { toList := [] } }]) := by kernel_rfl
theorem Try.alloc56 {h : AH} : aalloc Try.prog h 56 = mkAlloc h (some (#[Value.pointer none, Value.pointer none, Value.pointer none, Value.string { data := { toList := [] } }])) := aalloc_eq' Try.zero56
theorem Try.zero60 : zeroCellsOf Try.prog 60 = some (#[Value.nilFunc]) := by kernel_rfl
theorem Try.alloc60 {h : AH} : aalloc Try.prog h 60 = mkAlloc h (some (#[Value.nilFunc])) := aalloc_eq' Try.zero60
theorem Try.zero61 : zeroCellsOf Try.prog 61 = some (#[Value.int IntKind.u8 (0)]) := by kernel_rfl
theorem Try.alloc61 {h : AH} : aalloc Try.prog h 61 = mkAlloc h (some (#[Value.int IntKind.u8 (0)])) := aalloc_eq' Try.zero61
theorem Try.zero62 : zeroCellsOf Try.prog 62 = some (#[Value.int IntKind.u8 (0)]) := by kernel_rfl
theorem Try.alloc62 {h : AH} : aalloc Try.prog h 62 = mkAlloc h (some (#[Value.int IntKind.u8 (0)])) := aalloc_eq' Try.zero62
theorem Try.zero63 : zeroCellsOf Try.prog 63 = some (#[Value.nilFunc]) := by kernel_rfl
theorem Try.alloc63 {h : AH} : aalloc Try.prog h 63 = mkAlloc h (some (#[Value.nilFunc])) := aalloc_eq' Try.zero63
theorem Try.zero64 : zeroCellsOf Try.prog 64 = some (#[Value.pointer none]) := by kernel_rfl
theorem Try.alloc64 {h : AH} : aalloc Try.prog h 64 = mkAlloc h (some (#[Value.pointer none])) := aalloc_eq' Try.zero64
theorem Try.zero65 : zeroCellsOf Try.prog 65 = some (#[Value.int IntKind.i32 (0)]) := by kernel_rfl
theorem Try.alloc65 {h : AH} : aalloc Try.prog h 65 = mkAlloc h (some (#[Value.int IntKind.i32 (0)])) := aalloc_eq' Try.zero65
theorem Try.zero66 : zeroCellsOf Try.prog 66 = some (#[Value.int IntKind.i32 (0)]) := by kernel_rfl
theorem Try.alloc66 {h : AH} : aalloc Try.prog h 66 = mkAlloc h (some (#[Value.int IntKind.i32 (0)])) := aalloc_eq' Try.zero66
theorem Try.zero67 : zeroCellsOf Try.prog 67 = some (#[Value.int IntKind.u64 (0), Value.int IntKind.u64 (0), Value.int IntKind.u32 (0), Value.int IntKind.u8 (0), Value.int IntKind.u8 (0), Value.int IntKind.u8 (0), Value.int IntKind.u8 (0), Value.nilFunc, Value.pointer none, Value.int IntKind.i32 (0), Value.int IntKind.i32 (0)]) := by kernel_rfl
theorem Try.alloc67 {h : AH} : aalloc Try.prog h 67 = mkAlloc h (some (#[Value.int IntKind.u64 (0), Value.int IntKind.u64 (0), Value.int IntKind.u32 (0), Value.int IntKind.u8 (0), Value.int IntKind.u8 (0), Value.int IntKind.u8 (0), Value.int IntKind.u8 (0), Value.nilFunc, Value.pointer none, Value.int IntKind.i32 (0), Value.int IntKind.i32 (0)])) := aalloc_eq' Try.zero67
theorem Try.zero68 : zeroCellsOf Try.prog 68 = some (#[Value.int IntKind.u64 (0), Value.int IntKind.u64 (0), Value.int IntKind.u32 (0), Value.int IntKind.u8 (0), Value.int IntKind.u8 (0), Value.int IntKind.u8 (0), Value.int IntKind.u8 (0), Value.nilFunc, Value.pointer none, Value.int IntKind.i32 (0), Value.int IntKind.i32 (0)]) := by kernel_rfl
theorem Try.alloc68 {h : AH} : aalloc Try.prog h 68 = mkAlloc h (some (#[Value.int IntKind.u64 (0), Value.int IntKind.u64 (0), Value.int IntKind.u32 (0), Value.int IntKind.u8 (0), Value.int IntKind.u8 (0), Value.int IntKind.u8 (0), Value.int IntKind.u8 (0), Value.nilFunc, Value.pointer none, Value.int IntKind.i32 (0), Value.int IntKind.i32 (0)])) := aalloc_eq' Try.zero68
theorem Try.zero69 : zeroCellsOf Try.prog 69 = some (#[Value.pointer none]) := by kernel_rfl
theorem Try.alloc69 {h : AH} : aalloc Try.prog h 69 = mkAlloc h (some (#[Value.pointer none])) := aalloc_eq' Try.zero69
theorem Try.plc7 : plc Try.prog 7 = some [(0, 1), (1, 1), (2, 1), (3, 1)] := by kernel_rfl
theorem Try.build7 {ps : List (Nat × Value)} : abuild Try.prog 7 ps = mkBuild ps (some (#[Value.int IntKind.i64 (0), Value.int IntKind.i64 (0), Value.bool false, Value.int IntKind.u8 (0)])) (some [(0, 1), (1, 1), (2, 1), (3, 1)]) := abuild_eq' Try.zero7 Try.plc7
theorem Try.plc8 : plc Try.prog 8 = some [(0, 1), (1, 1), (2, 1), (3, 1)] := by kernel_rfl
theorem Try.build8 {ps : List (Nat × Value)} : abuild Try.prog 8 ps = mkBuild ps (some (#[Value.int IntKind.i64 (0), Value.int IntKind.i64 (0), Value.bool false, Value.int IntKind.u8 (0)])) (some [(0, 1), (1, 1), (2, 1), (3, 1)]) := abuild_eq' Try.zero8 Try.plc8
theorem Try.plc13 : plc Try.prog 13 = some [(0, 1), (1, 1)] := by kernel_rfl
theorem Try.build13 {ps : List (Nat × Value)} : abuild Try.prog 13 ps = mkBuild ps (some (#[Value.string { data := { toList := [] } }, Value.int IntKind.u64 (0)])) (some [(0, 1), (1, 1)]) := abuild_eq' Try.zero13 Try.plc13
theorem Try.plc14 : plc Try.prog 14 = some [(0, 1), (1, 1)] := by kernel_rfl
theorem Try.build14 {ps : List (Nat × Value)} : abuild Try.prog 14 ps = mkBuild ps (some (#[Value.string { data := { toList := [] } }, Value.int IntKind.u64 (0)])) (some [(0, 1), (1, 1)]) := abuild_eq' Try.zero14 Try.plc14
theorem Try.plc18 : plc Try.prog 18 = some [(0, 1)] := by kernel_rfl
theorem Try.build18 {ps : List (Nat × Value)} : abuild Try.prog 18 ps = mkBuild ps (some (#[Value.pointer none])) (some [(0, 1)]) := abuild_eq' Try.zero18 Try.plc18
theorem Try.plc19 : plc Try.prog 19 = some [(0, 1)] := by kernel_rfl
theorem Try.build19 {ps : List (Nat × Value)} : abuild Try.prog 19 ps = mkBuild ps (some (#[Value.pointer none])) (some [(0, 1)]) := abuild_eq' Try.zero19 Try.plc19
theorem Try.plc25 : plc Try.prog 25 = some [(0, 20), (20, 1), (21, 1)] := by kernel_rfl
theorem Try.build25 {ps : List (Nat × Value)} : abuild Try.prog 25 ps = mkBuild ps (some ((Array.replicate 20 (Value.int IntKind.u8 (0))) ++ (#[Value.int IntKind.u64 (0), Value.int IntKind.u64 (0)]))) (some [(0, 20), (20, 1), (21, 1)]) := abuild_eq' Try.zero25 Try.plc25
theorem Try.plc26 : plc Try.prog 26 = some [(0, 20), (20, 1), (21, 1)] := by kernel_rfl
theorem Try.build26 {ps : List (Nat × Value)} : abuild Try.prog 26 ps = mkBuild ps (some ((Array.replicate 20 (Value.int IntKind.u8 (0))) ++ (#[Value.int IntKind.u64 (0), Value.int IntKind.u64 (0)]))) (some [(0, 20), (20, 1), (21, 1)]) := abuild_eq' Try.zero26 Try.plc26
theorem Try.plc55 : plc Try.prog 55 = some [(0, 1), (1, 1), (2, 1), (3, 1)] := by kernel_rfl
theorem Try.build55 {ps : List (Nat × Value)} : abuild Try.prog 55 ps = mkBuild ps (some (#[Value.pointer none, Value.pointer none, Value.pointer none, Value.string { data := { toList := [] } }])) (some [(0, 1), (1, 1), (2, 1), (3, 1)]) := abuild_eq' Try.zero55 Try.plc55
theorem Try.plc56 : plc Try.prog 56 = some [(0, 1), (1, 1), (2, 1), (3, 1)] := by kernel_rfl
theorem Try.build56 {ps : List (Nat × Value)} : abuild Try.prog 56 ps = mkBuild ps (some (#[Value.pointer none, Value.pointer none, Value.pointer none, Value.string { data := { toList := [] } }])) (some [(0, 1), (1, 1), (2, 1), (3, 1)]) := abuild_eq' Try.zero56 Try.plc56
theorem Try.plc58 : plc Try.prog 58 = some [(0, 0)] := by kernel_rfl
theorem Try.plc59 : plc Try.prog 59 = some [(0, 0)] := by kernel_rfl
theorem Try.plc67 : plc Try.prog 67 = some [(0, 1), (1, 1), (2, 1), (3, 1), (4, 1), (5, 1), (6, 1), (7, 1), (8, 1), (9, 1), (10, 1)] := by kernel_rfl
theorem Try.build67 {ps : List (Nat × Value)} : abuild Try.prog 67 ps = mkBuild ps (some (#[Value.int IntKind.u64 (0), Value.int IntKind.u64 (0), Value.int IntKind.u32 (0), Value.int IntKind.u8 (0), Value.int IntKind.u8 (0), Value.int IntKind.u8 (0), Value.int IntKind.u8 (0), Value.nilFunc, Value.pointer none, Value.int IntKind.i32 (0), Value.int IntKind.i32 (0)])) (some [(0, 1), (1, 1), (2, 1), (3, 1), (4, 1), (5, 1), (6, 1), (7, 1), (8, 1), (9, 1), (10, 1)]) := abuild_eq' Try.zero67 Try.plc67
theorem Try.plc68 : plc Try.prog 68 = some [(0, 1), (1, 1), (2, 1), (3, 1), (4, 1), (5, 1), (6, 1), (7, 1), (8, 1), (9, 1), (10, 1)] := by kernel_rfl
theorem Try.build68 {ps : List (Nat × Value)} : abuild Try.prog 68 ps = mkBuild ps (some (#[Value.int IntKind.u64 (0), Value.int IntKind.u64 (0), Value.int IntKind.u32 (0), Value.int IntKind.u8 (0), Value.int IntKind.u8 (0), Value.int IntKind.u8 (0), Value.int IntKind.u8 (0), Value.nilFunc, Value.pointer none, Value.int IntKind.i32 (0), Value.int IntKind.i32 (0)])) (some [(0, 1), (1, 1), (2, 1), (3, 1), (4, 1), (5, 1), (6, 1), (7, 1), (8, 1), (9, 1), (10, 1)]) := abuild_eq' Try.zero68 Try.plc68
theorem Try.arr22 : arr Try.prog 22 = some (20, false, 1) := by kernel_rfl
theorem Try.index22 {c : Array Value} {k : IntKind} {i : Int} : aindex Try.prog 22 (.agg c) (.int k i) = mkIndex c i (some (20, false, 1)) := aindex_eq' Try.arr22
theorem Try.indexA22 {b o : Nat} {k : IntKind} {i : Int} : aindexAddr Try.prog 22 (.pointer (some ⟨b, o, none⟩)) (.int k i) = mkIndexA b o i (some (20, false, 1)) := aindexA_eq' Try.arr22
theorem Try.lenA22 {h : AH} {x : Value} : alen Try.prog h 22 x = some (.int .i64 20) := alenA_eq' Try.arr22
theorem Try.sliceA22 {h : AH} {b o : Nat} {lo hi : Option Value} : aslice Try.prog h 22 (.pointer (some ⟨b, o, none⟩)) lo hi = mkSliceA b o lo hi (some (20, false, 1)) := asliceA_eq' Try.arr22
theorem Try.arrptr22 {b o l c : Nat} : aarrayPtr Try.prog 22 (.slice (some ⟨b, o, none⟩) l c) = mkArrPtr b o l (some (20, false, 1)) := aarr_eq' Try.arr22
theorem Try.buildA22 {ps : List (Nat × Value)} : abuild Try.prog 22 ps = mkBuildA ps (some ((Array.replicate 20 (Value.int IntKind.u8 (0))))) (some (20, false, 1)) := abuildA_eq' Try.zero22 Try.arr22
theorem Try.arr23 : arr Try.prog 23 = some (20, false, 1) := by kernel_rfl
theorem Try.index23 {c : Array Value} {k : IntKind} {i : Int} : aindex Try.prog 23 (.agg c) (.int k i) = mkIndex c i (some (20, false, 1)) := aindex_eq' Try.arr23
theorem Try.indexA23 {b o : Nat} {k : IntKind} {i : Int} : aindexAddr Try.prog 23 (.pointer (some ⟨b, o, none⟩)) (.int k i) = mkIndexA b o i (some (20, false, 1)) := aindexA_eq' Try.arr23
theorem Try.lenA23 {h : AH} {x : Value} : alen Try.prog h 23 x = some (.int .i64 20) := alenA_eq' Try.arr23
theorem Try.sliceA23 {h : AH} {b o : Nat} {lo hi : Option Value} : aslice Try.prog h 23 (.pointer (some ⟨b, o, none⟩)) lo hi = mkSliceA b o lo hi (some (20, false, 1)) := asliceA_eq' Try.arr23
theorem Try.arrptr23 {b o l c : Nat} : aarrayPtr Try.prog 23 (.slice (some ⟨b, o, none⟩) l c) = mkArrPtr b o l (some (20, false, 1)) := aarr_eq' Try.arr23
theorem Try.buildA23 {ps : List (Nat × Value)} : abuild Try.prog 23 ps = mkBuildA ps (some ((Array.replicate 20 (Value.int IntKind.u8 (0))))) (some (20, false, 1)) := abuildA_eq' Try.zero23 Try.arr23
theorem Try.arr57 : arr Try.prog 57 = some (0, false, 1) := by kernel_rfl
theorem Try.index57 {c : Array Value} {k : IntKind} {i : Int} : aindex Try.prog 57 (.agg c) (.int k i) = mkIndex c i (some (0, false, 1)) := aindex_eq' Try.arr57
theorem Try.indexA57 {b o : Nat} {k : IntKind} {i : Int} : aindexAddr Try.prog 57 (.pointer (some ⟨b, o, none⟩)) (.int k i) = mkIndexA b o i (some (0, false, 1)) := aindexA_eq' Try.arr57
theorem Try.lenA57 {h : AH} {x : Value} : alen Try.prog h 57 x = some (.int .i64 0) := alenA_eq' Try.arr57
theorem Try.sliceA57 {h : AH} {b o : Nat} {lo hi : Option Value} : aslice Try.prog h 57 (.pointer (some ⟨b, o, none⟩)) lo hi = mkSliceA b o lo hi (some (0, false, 1)) := asliceA_eq' Try.arr57
theorem Try.arrptr57 {b o l c : Nat} : aarrayPtr Try.prog 57 (.slice (some ⟨b, o, none⟩) l c) = mkArrPtr b o l (some (0, false, 1)) := aarr_eq' Try.arr57
theorem Try.slc33 : slc Try.prog 33 = some (true, 22, 40) := by kernel_rfl
theorem Try.indexS33 {b o l c : Nat} {k : IntKind} {i : Int} : aindexAddr Try.prog 33 (.slice (some ⟨b, o, none⟩) l c) (.int k i) = mkIndexS b o l i (some (true, 22, 40)) := aindexS_eq' Try.slc33
theorem Try.len33 {h : AH} {a : Option Addr} {l c : Nat} : alen Try.prog h 33 (.slice a l c) = some (.int .i64 l) := alen_eq' Try.slc33
theorem Try.sliceS33 {h : AH} {b o l c : Nat} {lo hi : Option Value} : aslice Try.prog h 33 (.slice (some ⟨b, o, none⟩) l c) lo hi = mkSliceS b o l c lo hi (some (true, 22, 40)) h[b]? := asliceS_eq' Try.slc33
theorem Try.sliceN33 {h : AH} {lo hi : Option Value} : aslice Try.prog h 33 (.slice none 0 0) lo hi = (abounds 0 0 lo hi).map fun _ => .slice none 0 0 := asliceN_eq' Try.slc33
theorem Try.slz33 : slz Try.prog 33 = some ((Array.replicate 20 (Value.int IntKind.u8 (0))) ++ (#[Value.int IntKind.u64 (0), Value.int IntKind.u64 (0)])) := by kernel_rfl
theorem Try.buildS33 {h : AH} {n : Nat} {ps : List (Nat × Value)} : abuildSlice Try.prog h 33 n ps = mkBuildS h n ps (some ((Array.replicate 20 (Value.int IntKind.u8 (0))) ++ (#[Value.int IntKind.u64 (0), Value.int IntKind.u64 (0)]))) := abuildS_eq' Try.slz33
theorem Try.make33 {h : AH} {i n : Int} : amakeSlice Try.prog h 33 (.int .i64 i) (.int .i64 n) = mkMake h i n (some (true, 22, 40)) (some ((Array.replicate 20 (Value.int IntKind.u8 (0))) ++ (#[Value.int IntKind.u64 (0), Value.int IntKind.u64 (0)]))) := amake_eq' Try.slc33 Try.slz33
theorem Try.append33 {h : AH} {u : TypeId} {s x : Value} (hn : nint Try.prog u = true) : aappend Try.prog h 33 u s x = mkApp h s (some (true, 22, 40)) (mkSrc h x (some (true, 22, 40)) true) := aappend_eq' Try.slc33 Try.slz33 hn
theorem Try.slc37 : slc Try.prog 37 = some (false, 1, 1) := by kernel_rfl
theorem Try.indexS37 {b o l c : Nat} {k : IntKind} {i : Int} : aindexAddr Try.prog 37 (.slice (some ⟨b, o, none⟩) l c) (.int k i) = mkIndexS b o l i (some (false, 1, 1)) := aindexS_eq' Try.slc37
theorem Try.len37 {h : AH} {a : Option Addr} {l c : Nat} : alen Try.prog h 37 (.slice a l c) = some (.int .i64 l) := alen_eq' Try.slc37
theorem Try.sliceS37 {h : AH} {b o l c : Nat} {lo hi : Option Value} : aslice Try.prog h 37 (.slice (some ⟨b, o, none⟩) l c) lo hi = mkSliceS b o l c lo hi (some (false, 1, 1)) h[b]? := asliceS_eq' Try.slc37
theorem Try.sliceN37 {h : AH} {lo hi : Option Value} : aslice Try.prog h 37 (.slice none 0 0) lo hi = (abounds 0 0 lo hi).map fun _ => .slice none 0 0 := asliceN_eq' Try.slc37
theorem Try.slz37 : slz Try.prog 37 = some (#[Value.bool false]) := by kernel_rfl
theorem Try.buildS37 {h : AH} {n : Nat} {ps : List (Nat × Value)} : abuildSlice Try.prog h 37 n ps = mkBuildS h n ps (some (#[Value.bool false])) := abuildS_eq' Try.slz37
theorem Try.make37 {h : AH} {i n : Int} : amakeSlice Try.prog h 37 (.int .i64 i) (.int .i64 n) = mkMake h i n (some (false, 1, 1)) (some (#[Value.bool false])) := amake_eq' Try.slc37 Try.slz37
theorem Try.append37 {h : AH} {u : TypeId} {s x : Value} (hn : nint Try.prog u = true) : aappend Try.prog h 37 u s x = mkApp h s (some (false, 1, 1)) (mkSrc h x (some (false, 1, 1)) true) := aappend_eq' Try.slc37 Try.slz37 hn
theorem Try.slc46 : slc Try.prog 46 = some (false, 1, 1) := by kernel_rfl
theorem Try.indexS46 {b o l c : Nat} {k : IntKind} {i : Int} : aindexAddr Try.prog 46 (.slice (some ⟨b, o, none⟩) l c) (.int k i) = mkIndexS b o l i (some (false, 1, 1)) := aindexS_eq' Try.slc46
theorem Try.len46 {h : AH} {a : Option Addr} {l c : Nat} : alen Try.prog h 46 (.slice a l c) = some (.int .i64 l) := alen_eq' Try.slc46
theorem Try.sliceS46 {h : AH} {b o l c : Nat} {lo hi : Option Value} : aslice Try.prog h 46 (.slice (some ⟨b, o, none⟩) l c) lo hi = mkSliceS b o l c lo hi (some (false, 1, 1)) h[b]? := asliceS_eq' Try.slc46
theorem Try.sliceN46 {h : AH} {lo hi : Option Value} : aslice Try.prog h 46 (.slice none 0 0) lo hi = (abounds 0 0 lo hi).map fun _ => .slice none 0 0 := asliceN_eq' Try.slc46
theorem Try.slz46 : slz Try.prog 46 = some (#[Value.int IntKind.u8 (0)]) := by kernel_rfl
theorem Try.buildS46 {h : AH} {n : Nat} {ps : List (Nat × Value)} : abuildSlice Try.prog h 46 n ps = mkBuildS h n ps (some (#[Value.int IntKind.u8 (0)])) := abuildS_eq' Try.slz46
theorem Try.make46 {h : AH} {i n : Int} : amakeSlice Try.prog h 46 (.int .i64 i) (.int .i64 n) = mkMake h i n (some (false, 1, 1)) (some (#[Value.int IntKind.u8 (0)])) := amake_eq' Try.slc46 Try.slz46
theorem Try.append46 {h : AH} {u : TypeId} {s x : Value} (hn : nint Try.prog u = true) : aappend Try.prog h 46 u s x = mkApp h s (some (false, 1, 1)) (mkSrc h x (some (false, 1, 1)) true) := aappend_eq' Try.slc46 Try.slz46 hn
theorem Try.intk2 : intk Try.prog 2 = some IntKind.i64 := by kernel_rfl
theorem Try.conv2 {h : AH} {u : TypeId} {k : IntKind} {n : Int} (hs : (tyc Try.prog u).isSome = true) : aconvert Try.prog h u 2 (.int k n) = some (.int IntKind.i64 (IntKind.i64.wrap n), h) := aconvI_eq' Try.intk2 hs
theorem Try.intk3 : intk Try.prog 3 = some IntKind.i64 := by kernel_rfl
theorem Try.conv3 {h : AH} {u : TypeId} {k : IntKind} {n : Int} (hs : (tyc Try.prog u).isSome = true) : aconvert Try.prog h u 3 (.int k n) = some (.int IntKind.i64 (IntKind.i64.wrap n), h) := aconvI_eq' Try.intk3 hs
theorem Try.intk5 : intk Try.prog 5 = some IntKind.u8 := by kernel_rfl
theorem Try.conv5 {h : AH} {u : TypeId} {k : IntKind} {n : Int} (hs : (tyc Try.prog u).isSome = true) : aconvert Try.prog h u 5 (.int k n) = some (.int IntKind.u8 (IntKind.u8.wrap n), h) := aconvI_eq' Try.intk5 hs
theorem Try.intk6 : intk Try.prog 6 = some IntKind.u8 := by kernel_rfl
theorem Try.conv6 {h : AH} {u : TypeId} {k : IntKind} {n : Int} (hs : (tyc Try.prog u).isSome = true) : aconvert Try.prog h u 6 (.int k n) = some (.int IntKind.u8 (IntKind.u8.wrap n), h) := aconvI_eq' Try.intk6 hs
theorem Try.intk12 : intk Try.prog 12 = some IntKind.u64 := by kernel_rfl
theorem Try.conv12 {h : AH} {u : TypeId} {k : IntKind} {n : Int} (hs : (tyc Try.prog u).isSome = true) : aconvert Try.prog h u 12 (.int k n) = some (.int IntKind.u64 (IntKind.u64.wrap n), h) := aconvI_eq' Try.intk12 hs
theorem Try.intk21 : intk Try.prog 21 = some IntKind.i32 := by kernel_rfl
theorem Try.conv21 {h : AH} {u : TypeId} {k : IntKind} {n : Int} (hs : (tyc Try.prog u).isSome = true) : aconvert Try.prog h u 21 (.int k n) = some (.int IntKind.i32 (IntKind.i32.wrap n), h) := aconvI_eq' Try.intk21 hs
theorem Try.intk24 : intk Try.prog 24 = some IntKind.u64 := by kernel_rfl
theorem Try.conv24 {h : AH} {u : TypeId} {k : IntKind} {n : Int} (hs : (tyc Try.prog u).isSome = true) : aconvert Try.prog h u 24 (.int k n) = some (.int IntKind.u64 (IntKind.u64.wrap n), h) := aconvI_eq' Try.intk24 hs
theorem Try.intk31 : intk Try.prog 31 = some IntKind.u32 := by kernel_rfl
theorem Try.conv31 {h : AH} {u : TypeId} {k : IntKind} {n : Int} (hs : (tyc Try.prog u).isSome = true) : aconvert Try.prog h u 31 (.int k n) = some (.int IntKind.u32 (IntKind.u32.wrap n), h) := aconvI_eq' Try.intk31 hs
theorem Try.intk50 : intk Try.prog 50 = some IntKind.u64 := by kernel_rfl
theorem Try.conv50 {h : AH} {u : TypeId} {k : IntKind} {n : Int} (hs : (tyc Try.prog u).isSome = true) : aconvert Try.prog h u 50 (.int k n) = some (.int IntKind.u64 (IntKind.u64.wrap n), h) := aconvI_eq' Try.intk50 hs
theorem Try.intk61 : intk Try.prog 61 = some IntKind.u8 := by kernel_rfl
theorem Try.conv61 {h : AH} {u : TypeId} {k : IntKind} {n : Int} (hs : (tyc Try.prog u).isSome = true) : aconvert Try.prog h u 61 (.int k n) = some (.int IntKind.u8 (IntKind.u8.wrap n), h) := aconvI_eq' Try.intk61 hs
theorem Try.intk62 : intk Try.prog 62 = some IntKind.u8 := by kernel_rfl
theorem Try.conv62 {h : AH} {u : TypeId} {k : IntKind} {n : Int} (hs : (tyc Try.prog u).isSome = true) : aconvert Try.prog h u 62 (.int k n) = some (.int IntKind.u8 (IntKind.u8.wrap n), h) := aconvI_eq' Try.intk62 hs
theorem Try.intk65 : intk Try.prog 65 = some IntKind.i32 := by kernel_rfl
theorem Try.conv65 {h : AH} {u : TypeId} {k : IntKind} {n : Int} (hs : (tyc Try.prog u).isSome = true) : aconvert Try.prog h u 65 (.int k n) = some (.int IntKind.i32 (IntKind.i32.wrap n), h) := aconvI_eq' Try.intk65 hs
theorem Try.intk66 : intk Try.prog 66 = some IntKind.i32 := by kernel_rfl
theorem Try.conv66 {h : AH} {u : TypeId} {k : IntKind} {n : Int} (hs : (tyc Try.prog u).isSome = true) : aconvert Try.prog h u 66 (.int k n) = some (.int IntKind.i32 (IntKind.i32.wrap n), h) := aconvI_eq' Try.intk66 hs
theorem Try.nint9 : nint Try.prog 9 = true := by kernel_rfl
theorem Try.nint10 : nint Try.prog 10 = true := by kernel_rfl
theorem Try.nint11 : nint Try.prog 11 = true := by kernel_rfl
theorem Try.nint33 : nint Try.prog 33 = true := by kernel_rfl
theorem Try.nint37 : nint Try.prog 37 = true := by kernel_rfl
theorem Try.nint46 : nint Try.prog 46 = true := by kernel_rfl
theorem Try.isStr9 : isStr Try.prog 9 = true := by kernel_rfl
theorem Try.lenT9 {h : AH} {s : ByteArray} : alen Try.prog h 9 (.string s) = some (.int .i64 s.size) := alenT_eq' Try.isStr9
theorem Try.sliceT9 {h : AH} {s : ByteArray} {lo hi : Option Value} : aslice Try.prog h 9 (.string s) lo hi = mkSliceT s lo hi true := asliceT_eq' Try.isStr9
theorem Try.isStr10 : isStr Try.prog 10 = true := by kernel_rfl
theorem Try.lenT10 {h : AH} {s : ByteArray} : alen Try.prog h 10 (.string s) = some (.int .i64 s.size) := alenT_eq' Try.isStr10
theorem Try.sliceT10 {h : AH} {s : ByteArray} {lo hi : Option Value} : aslice Try.prog h 10 (.string s) lo hi = mkSliceT s lo hi true := asliceT_eq' Try.isStr10
theorem Try.isStr11 : isStr Try.prog 11 = true := by kernel_rfl
theorem Try.lenT11 {h : AH} {s : ByteArray} : alen Try.prog h 11 (.string s) = some (.int .i64 s.size) := alenT_eq' Try.isStr11
theorem Try.sliceT11 {h : AH} {s : ByteArray} {lo hi : Option Value} : aslice Try.prog h 11 (.string s) lo hi = mkSliceT s lo hi true := asliceT_eq' Try.isStr11
theorem Try.hb2 : hasBody Try.prog 2 = true := by kernel_rfl
theorem Try.hb3 : hasBody Try.prog 3 = true := by kernel_rfl
theorem Try.hb4 : hasBody Try.prog 4 = true := by kernel_rfl
theorem Try.hb5 : hasBody Try.prog 5 = true := by kernel_rfl
theorem Try.hb6 : hasBody Try.prog 6 = true := by kernel_rfl
theorem Try.hb7 : hasBody Try.prog 7 = true := by kernel_rfl
theorem Try.hb8 : hasBody Try.prog 8 = true := by kernel_rfl
theorem Try.hb9 : hasBody Try.prog 9 = true := by kernel_rfl
theorem Try.hb10 : hasBody Try.prog 10 = true := by kernel_rfl
theorem Try.hb11 : hasBody Try.prog 11 = true := by kernel_rfl
theorem Try.hb12 : hasBody Try.prog 12 = true := by kernel_rfl
theorem Try.hb13 : hasBody Try.prog 13 = true := by kernel_rfl
theorem Try.hb14 : hasBody Try.prog 14 = true := by kernel_rfl
theorem Try.hb15 : hasBody Try.prog 15 = true := by kernel_rfl
theorem Try.hb16 : hasBody Try.prog 16 = true := by kernel_rfl
theorem Try.hb17 : hasBody Try.prog 17 = true := by kernel_rfl
theorem Try.hb18 : hasBody Try.prog 18 = true := by kernel_rfl
theorem Try.hb19 : hasBody Try.prog 19 = true := by kernel_rfl
theorem Try.hb20 : hasBody Try.prog 20 = true := by kernel_rfl
theorem Try.hb21 : hasBody Try.prog 21 = true := by kernel_rfl
theorem Try.hb22 : hasBody Try.prog 22 = true := by kernel_rfl
theorem Try.hb23 : hasBody Try.prog 23 = true := by kernel_rfl
theorem Try.hb24 : hasBody Try.prog 24 = true := by kernel_rfl
theorem Try.hb25 : hasBody Try.prog 25 = true := by kernel_rfl
theorem Try.hb28 : hasBody Try.prog 28 = true := by kernel_rfl
theorem Try.hb29 : hasBody Try.prog 29 = true := by kernel_rfl
theorem Try.hb30 : hasBody Try.prog 30 = true := by kernel_rfl
theorem Try.cmp26 {h : AH} {x y : Value} : acall Try.prog h (.func (.func 26) #[] #[]) #[x, y] = aval h (acompare h x y) := acall_compare (by kernel_rfl) (by kernel_rfl)
end Go.Proofs
