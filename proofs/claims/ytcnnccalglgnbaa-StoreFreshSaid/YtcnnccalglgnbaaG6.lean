import Derived.Test.YtcnnccalglgnbaaProg
import Derived.KernelRfl
import Derived.Test.YtcnnccalglgnbaaG5
/- Closed facts of the types and functions. -/
namespace Go.Proofs
open Go Go.Am
theorem Try.tyc2 : tyc Try.prog 2 = some (false, 1) := by kernel_rfl
theorem Try.load2 {h : AH} {b o : Nat} : aload Try.prog h 2 (.pointer (some ⟨b, o, none⟩)) = mkLoad o (some (false, 1)) h[b]? := aload_eq Try.tyc2
theorem Try.store2 {h : AH} {b o : Nat} {v : Value} : astore Try.prog h 2 (.pointer (some ⟨b, o, none⟩)) v = mkStore h b o v (some (false, 1)) h[b]? := astore_eq' Try.tyc2
theorem Try.tyc3 : tyc Try.prog 3 = some (false, 1) := by kernel_rfl
theorem Try.load3 {h : AH} {b o : Nat} : aload Try.prog h 3 (.pointer (some ⟨b, o, none⟩)) = mkLoad o (some (false, 1)) h[b]? := aload_eq Try.tyc3
theorem Try.store3 {h : AH} {b o : Nat} {v : Value} : astore Try.prog h 3 (.pointer (some ⟨b, o, none⟩)) v = mkStore h b o v (some (false, 1)) h[b]? := astore_eq' Try.tyc3
theorem Try.tyc9 : tyc Try.prog 9 = some (false, 1) := by kernel_rfl
theorem Try.load9 {h : AH} {b o : Nat} : aload Try.prog h 9 (.pointer (some ⟨b, o, none⟩)) = mkLoad o (some (false, 1)) h[b]? := aload_eq Try.tyc9
theorem Try.tyc26 : tyc Try.prog 26 = some (true, 20) := by kernel_rfl
theorem Try.load26 {h : AH} {b o : Nat} : aload Try.prog h 26 (.pointer (some ⟨b, o, none⟩)) = mkLoad o (some (true, 20)) h[b]? := aload_eq Try.tyc26
theorem Try.store26 {h : AH} {b o : Nat} {v : Value} : astore Try.prog h 26 (.pointer (some ⟨b, o, none⟩)) v = mkStore h b o v (some (true, 20)) h[b]? := astore_eq' Try.tyc26
theorem Try.tyc27 : tyc Try.prog 27 = some (false, 1) := by kernel_rfl
theorem Try.load27 {h : AH} {b o : Nat} : aload Try.prog h 27 (.pointer (some ⟨b, o, none⟩)) = mkLoad o (some (false, 1)) h[b]? := aload_eq Try.tyc27
theorem Try.store27 {h : AH} {b o : Nat} {v : Value} : astore Try.prog h 27 (.pointer (some ⟨b, o, none⟩)) v = mkStore h b o v (some (false, 1)) h[b]? := astore_eq' Try.tyc27
theorem Try.tyc29 : tyc Try.prog 29 = some (true, 4) := by kernel_rfl
theorem Try.load29 {h : AH} {b o : Nat} : aload Try.prog h 29 (.pointer (some ⟨b, o, none⟩)) = mkLoad o (some (true, 4)) h[b]? := aload_eq Try.tyc29
theorem Try.store29 {h : AH} {b o : Nat} {v : Value} : astore Try.prog h 29 (.pointer (some ⟨b, o, none⟩)) v = mkStore h b o v (some (true, 4)) h[b]? := astore_eq' Try.tyc29
theorem Try.tyc30 : tyc Try.prog 30 = some (false, 1) := by kernel_rfl
theorem Try.load30 {h : AH} {b o : Nat} : aload Try.prog h 30 (.pointer (some ⟨b, o, none⟩)) = mkLoad o (some (false, 1)) h[b]? := aload_eq Try.tyc30
theorem Try.loadF30 {h : AH} {c : Array Value} {n : Nat} : aload Try.prog h 30 (fp c n) = mkLoadF c n (some (false, 1)) := aload_fp Try.tyc30
theorem Try.tyc31 : tyc Try.prog 31 = some (false, 1) := by kernel_rfl
theorem Try.load31 {h : AH} {b o : Nat} : aload Try.prog h 31 (.pointer (some ⟨b, o, none⟩)) = mkLoad o (some (false, 1)) h[b]? := aload_eq Try.tyc31
theorem Try.loadF31 {h : AH} {c : Array Value} {n : Nat} : aload Try.prog h 31 (fp c n) = mkLoadF c n (some (false, 1)) := aload_fp Try.tyc31
theorem Try.tyc35 : tyc Try.prog 35 = some (true, 27) := by kernel_rfl
theorem Try.store35 {h : AH} {b o : Nat} {v : Value} : astore Try.prog h 35 (.pointer (some ⟨b, o, none⟩)) v = mkStore h b o v (some (true, 27)) h[b]? := astore_eq' Try.tyc35
theorem Try.tyc37 : tyc Try.prog 37 = some (false, 1) := by kernel_rfl
theorem Try.load37 {h : AH} {b o : Nat} : aload Try.prog h 37 (.pointer (some ⟨b, o, none⟩)) = mkLoad o (some (false, 1)) h[b]? := aload_eq Try.tyc37
theorem Try.tyc52 : tyc Try.prog 52 = some (true, 51) := by kernel_rfl
theorem Try.loadF52 {h : AH} {c : Array Value} {n : Nat} : aload Try.prog h 52 (fp c n) = mkLoadF c n (some (true, 51)) := aload_fp Try.tyc52
theorem Try.store52 {h : AH} {b o : Nat} {v : Value} : astore Try.prog h 52 (.pointer (some ⟨b, o, none⟩)) v = mkStore h b o v (some (true, 51)) h[b]? := astore_eq' Try.tyc52
theorem Try.tyc59 : tyc Try.prog 59 = some (false, 1) := by kernel_rfl
theorem Try.load59 {h : AH} {b o : Nat} : aload Try.prog h 59 (.pointer (some ⟨b, o, none⟩)) = mkLoad o (some (false, 1)) h[b]? := aload_eq Try.tyc59
theorem Try.store59 {h : AH} {b o : Nat} {v : Value} : astore Try.prog h 59 (.pointer (some ⟨b, o, none⟩)) v = mkStore h b o v (some (false, 1)) h[b]? := astore_eq' Try.tyc59
theorem Try.tyc65 : tyc Try.prog 65 = some (true, 8) := by kernel_rfl
theorem Try.store65 {h : AH} {b o : Nat} {v : Value} : astore Try.prog h 65 (.pointer (some ⟨b, o, none⟩)) v = mkStore h b o v (some (true, 8)) h[b]? := astore_eq' Try.tyc65
theorem Try.tyc66 : tyc Try.prog 66 = some (false, 1) := by kernel_rfl
theorem Try.load66 {h : AH} {b o : Nat} : aload Try.prog h 66 (.pointer (some ⟨b, o, none⟩)) = mkLoad o (some (false, 1)) h[b]? := aload_eq Try.tyc66
theorem Try.tyc67 : tyc Try.prog 67 = some (false, 1) := by kernel_rfl
theorem Try.load67 {h : AH} {b o : Nat} : aload Try.prog h 67 (.pointer (some ⟨b, o, none⟩)) = mkLoad o (some (false, 1)) h[b]? := aload_eq Try.tyc67
theorem Try.tyc68 : tyc Try.prog 68 = some (false, 1) := by kernel_rfl
theorem Try.load68 {h : AH} {b o : Nat} : aload Try.prog h 68 (.pointer (some ⟨b, o, none⟩)) = mkLoad o (some (false, 1)) h[b]? := aload_eq Try.tyc68
theorem Try.tyc69 : tyc Try.prog 69 = some (false, 1) := by kernel_rfl
theorem Try.load69 {h : AH} {b o : Nat} : aload Try.prog h 69 (.pointer (some ⟨b, o, none⟩)) = mkLoad o (some (false, 1)) h[b]? := aload_eq Try.tyc69
theorem Try.tyc70 : tyc Try.prog 70 = some (false, 1) := by kernel_rfl
theorem Try.load70 {h : AH} {b o : Nat} : aload Try.prog h 70 (.pointer (some ⟨b, o, none⟩)) = mkLoad o (some (false, 1)) h[b]? := aload_eq Try.tyc70
theorem Try.store70 {h : AH} {b o : Nat} {v : Value} : astore Try.prog h 70 (.pointer (some ⟨b, o, none⟩)) v = mkStore h b o v (some (false, 1)) h[b]? := astore_eq' Try.tyc70
theorem Try.tyc71 : tyc Try.prog 71 = some (false, 1) := by kernel_rfl
theorem Try.load71 {h : AH} {b o : Nat} : aload Try.prog h 71 (.pointer (some ⟨b, o, none⟩)) = mkLoad o (some (false, 1)) h[b]? := aload_eq Try.tyc71
theorem Try.store71 {h : AH} {b o : Nat} {v : Value} : astore Try.prog h 71 (.pointer (some ⟨b, o, none⟩)) v = mkStore h b o v (some (false, 1)) h[b]? := astore_eq' Try.tyc71
theorem Try.tyc73 : tyc Try.prog 73 = some (true, 11) := by kernel_rfl
theorem Try.store73 {h : AH} {b o : Nat} {v : Value} : astore Try.prog h 73 (.pointer (some ⟨b, o, none⟩)) v = mkStore h b o v (some (true, 11)) h[b]? := astore_eq' Try.tyc73
theorem Try.tyc76 : tyc Try.prog 76 = some (true, 6) := by kernel_rfl
theorem Try.load76 {h : AH} {b o : Nat} : aload Try.prog h 76 (.pointer (some ⟨b, o, none⟩)) = mkLoad o (some (true, 6)) h[b]? := aload_eq Try.tyc76
theorem Try.store76 {h : AH} {b o : Nat} {v : Value} : astore Try.prog h 76 (.pointer (some ⟨b, o, none⟩)) v = mkStore h b o v (some (true, 6)) h[b]? := astore_eq' Try.tyc76
theorem Try.tyc78 : tyc Try.prog 78 = some (true, 24) := by kernel_rfl
theorem Try.load78 {h : AH} {b o : Nat} : aload Try.prog h 78 (.pointer (some ⟨b, o, none⟩)) = mkLoad o (some (true, 24)) h[b]? := aload_eq Try.tyc78
theorem Try.loadF78 {h : AH} {c : Array Value} {n : Nat} : aload Try.prog h 78 (fp c n) = mkLoadF c n (some (true, 24)) := aload_fp Try.tyc78
theorem Try.store78 {h : AH} {b o : Nat} {v : Value} : astore Try.prog h 78 (.pointer (some ⟨b, o, none⟩)) v = mkStore h b o v (some (true, 24)) h[b]? := astore_eq' Try.tyc78
theorem Try.tyc79 : tyc Try.prog 79 = some (false, 1) := by kernel_rfl
theorem Try.load79 {h : AH} {b o : Nat} : aload Try.prog h 79 (.pointer (some ⟨b, o, none⟩)) = mkLoad o (some (false, 1)) h[b]? := aload_eq Try.tyc79
theorem Try.tyc80 : tyc Try.prog 80 = some (false, 1) := by kernel_rfl
theorem Try.load80 {h : AH} {b o : Nat} : aload Try.prog h 80 (.pointer (some ⟨b, o, none⟩)) = mkLoad o (some (false, 1)) h[b]? := aload_eq Try.tyc80
theorem Try.store80 {h : AH} {b o : Nat} {v : Value} : astore Try.prog h 80 (.pointer (some ⟨b, o, none⟩)) v = mkStore h b o v (some (false, 1)) h[b]? := astore_eq' Try.tyc80
theorem Try.tyc87 : tyc Try.prog 87 = some (false, 1) := by kernel_rfl
theorem Try.load87 {h : AH} {b o : Nat} : aload Try.prog h 87 (.pointer (some ⟨b, o, none⟩)) = mkLoad o (some (false, 1)) h[b]? := aload_eq Try.tyc87
theorem Try.store87 {h : AH} {b o : Nat} {v : Value} : astore Try.prog h 87 (.pointer (some ⟨b, o, none⟩)) v = mkStore h b o v (some (false, 1)) h[b]? := astore_eq' Try.tyc87
theorem Try.tyc101 : tyc Try.prog 101 = some (true, 36) := by kernel_rfl
theorem Try.load101 {h : AH} {b o : Nat} : aload Try.prog h 101 (.pointer (some ⟨b, o, none⟩)) = mkLoad o (some (true, 36)) h[b]? := aload_eq Try.tyc101
theorem Try.store101 {h : AH} {b o : Nat} {v : Value} : astore Try.prog h 101 (.pointer (some ⟨b, o, none⟩)) v = mkStore h b o v (some (true, 36)) h[b]? := astore_eq' Try.tyc101
theorem Try.tyc107 : tyc Try.prog 107 = some (true, 2) := by kernel_rfl
theorem Try.load107 {h : AH} {b o : Nat} : aload Try.prog h 107 (.pointer (some ⟨b, o, none⟩)) = mkLoad o (some (true, 2)) h[b]? := aload_eq Try.tyc107
theorem Try.fld33_0 : fld Try.prog 33 0 = some (0, false, 1) := by kernel_rfl
theorem Try.fieldAddr33_0 {b o : Nat} : afieldAddr Try.prog 33 (.pointer (some ⟨b, o, none⟩)) 0 = mkFieldAddr b o (some (0, false, 1)) := afieldAddr_eq' Try.fld33_0
theorem Try.fld33_1 : fld Try.prog 33 1 = some (1, true, 4) := by kernel_rfl
theorem Try.fieldAddr33_1 {b o : Nat} : afieldAddr Try.prog 33 (.pointer (some ⟨b, o, none⟩)) 1 = mkFieldAddr b o (some (1, true, 4)) := afieldAddr_eq' Try.fld33_1
theorem Try.fld33_2 : fld Try.prog 33 2 = some (5, false, 1) := by kernel_rfl
theorem Try.fieldAddr33_2 {b o : Nat} : afieldAddr Try.prog 33 (.pointer (some ⟨b, o, none⟩)) 2 = mkFieldAddr b o (some (5, false, 1)) := afieldAddr_eq' Try.fld33_2
theorem Try.fieldAddrF33_2 {c : Array Value} {n : Nat} : afieldAddr Try.prog 33 (fp c n) 2 = mkFieldAddrF c n (some (5, false, 1)) := afieldAddr_fp Try.fld33_2
theorem Try.fld33_3 : fld Try.prog 33 3 = some (6, false, 1) := by kernel_rfl
theorem Try.fieldAddr33_3 {b o : Nat} : afieldAddr Try.prog 33 (.pointer (some ⟨b, o, none⟩)) 3 = mkFieldAddr b o (some (6, false, 1)) := afieldAddr_eq' Try.fld33_3
theorem Try.fieldAddrF33_3 {c : Array Value} {n : Nat} : afieldAddr Try.prog 33 (fp c n) 3 = mkFieldAddrF c n (some (6, false, 1)) := afieldAddr_fp Try.fld33_3
theorem Try.fld35_0 : fld Try.prog 35 0 = some (0, true, 20) := by kernel_rfl
theorem Try.fieldAddr35_0 {b o : Nat} : afieldAddr Try.prog 35 (.pointer (some ⟨b, o, none⟩)) 0 = mkFieldAddr b o (some (0, true, 20)) := afieldAddr_eq' Try.fld35_0
theorem Try.fld35_1 : fld Try.prog 35 1 = some (20, true, 7) := by kernel_rfl
theorem Try.fieldAddr35_1 {b o : Nat} : afieldAddr Try.prog 35 (.pointer (some ⟨b, o, none⟩)) 1 = mkFieldAddr b o (some (20, true, 7)) := afieldAddr_eq' Try.fld35_1
theorem Try.fieldAddrF35_1 {c : Array Value} {n : Nat} : afieldAddr Try.prog 35 (fp c n) 1 = mkFieldAddrF c n (some (20, true, 7)) := afieldAddr_fp Try.fld35_1
theorem Try.fld52_1 : fld Try.prog 52 1 = some (1, true, 20) := by kernel_rfl
theorem Try.fieldAddr52_1 {b o : Nat} : afieldAddr Try.prog 52 (.pointer (some ⟨b, o, none⟩)) 1 = mkFieldAddr b o (some (1, true, 20)) := afieldAddr_eq' Try.fld52_1
theorem Try.fld52_3 : fld Try.prog 52 3 = some (41, true, 4) := by kernel_rfl
theorem Try.fieldAddr52_3 {b o : Nat} : afieldAddr Try.prog 52 (.pointer (some ⟨b, o, none⟩)) 3 = mkFieldAddr b o (some (41, true, 4)) := afieldAddr_eq' Try.fld52_3
theorem Try.fld52_4 : fld Try.prog 52 4 = some (45, true, 4) := by kernel_rfl
theorem Try.fieldAddr52_4 {b o : Nat} : afieldAddr Try.prog 52 (.pointer (some ⟨b, o, none⟩)) 4 = mkFieldAddr b o (some (45, true, 4)) := afieldAddr_eq' Try.fld52_4
theorem Try.fld52_6 : fld Try.prog 52 6 = some (50, false, 1) := by kernel_rfl
theorem Try.fieldAddrF52_6 {c : Array Value} {n : Nat} : afieldAddr Try.prog 52 (fp c n) 6 = mkFieldAddrF c n (some (50, false, 1)) := afieldAddr_fp Try.fld52_6
theorem Try.fld65_0 : fld Try.prog 65 0 = some (0, true, 4) := by kernel_rfl
theorem Try.fieldAddr65_0 {b o : Nat} : afieldAddr Try.prog 65 (.pointer (some ⟨b, o, none⟩)) 0 = mkFieldAddr b o (some (0, true, 4)) := afieldAddr_eq' Try.fld65_0
theorem Try.fld65_1 : fld Try.prog 65 1 = some (4, true, 4) := by kernel_rfl
theorem Try.fieldAddr65_1 {b o : Nat} : afieldAddr Try.prog 65 (.pointer (some ⟨b, o, none⟩)) 1 = mkFieldAddr b o (some (4, true, 4)) := afieldAddr_eq' Try.fld65_1
theorem Try.fld73_0 : fld Try.prog 73 0 = some (0, false, 1) := by kernel_rfl
theorem Try.fieldAddr73_0 {b o : Nat} : afieldAddr Try.prog 73 (.pointer (some ⟨b, o, none⟩)) 0 = mkFieldAddr b o (some (0, false, 1)) := afieldAddr_eq' Try.fld73_0
theorem Try.fld73_1 : fld Try.prog 73 1 = some (1, false, 1) := by kernel_rfl
theorem Try.fieldAddr73_1 {b o : Nat} : afieldAddr Try.prog 73 (.pointer (some ⟨b, o, none⟩)) 1 = mkFieldAddr b o (some (1, false, 1)) := afieldAddr_eq' Try.fld73_1
theorem Try.fld73_2 : fld Try.prog 73 2 = some (2, false, 1) := by kernel_rfl
theorem Try.fieldAddr73_2 {b o : Nat} : afieldAddr Try.prog 73 (.pointer (some ⟨b, o, none⟩)) 2 = mkFieldAddr b o (some (2, false, 1)) := afieldAddr_eq' Try.fld73_2
theorem Try.fld73_3 : fld Try.prog 73 3 = some (3, false, 1) := by kernel_rfl
theorem Try.fieldAddr73_3 {b o : Nat} : afieldAddr Try.prog 73 (.pointer (some ⟨b, o, none⟩)) 3 = mkFieldAddr b o (some (3, false, 1)) := afieldAddr_eq' Try.fld73_3
theorem Try.fld73_4 : fld Try.prog 73 4 = some (4, false, 1) := by kernel_rfl
theorem Try.fieldAddr73_4 {b o : Nat} : afieldAddr Try.prog 73 (.pointer (some ⟨b, o, none⟩)) 4 = mkFieldAddr b o (some (4, false, 1)) := afieldAddr_eq' Try.fld73_4
theorem Try.fld73_5 : fld Try.prog 73 5 = some (5, false, 1) := by kernel_rfl
theorem Try.fieldAddr73_5 {b o : Nat} : afieldAddr Try.prog 73 (.pointer (some ⟨b, o, none⟩)) 5 = mkFieldAddr b o (some (5, false, 1)) := afieldAddr_eq' Try.fld73_5
theorem Try.fld73_6 : fld Try.prog 73 6 = some (6, false, 1) := by kernel_rfl
theorem Try.fieldAddr73_6 {b o : Nat} : afieldAddr Try.prog 73 (.pointer (some ⟨b, o, none⟩)) 6 = mkFieldAddr b o (some (6, false, 1)) := afieldAddr_eq' Try.fld73_6
theorem Try.fld73_7 : fld Try.prog 73 7 = some (7, false, 1) := by kernel_rfl
theorem Try.fieldAddr73_7 {b o : Nat} : afieldAddr Try.prog 73 (.pointer (some ⟨b, o, none⟩)) 7 = mkFieldAddr b o (some (7, false, 1)) := afieldAddr_eq' Try.fld73_7
theorem Try.fld73_8 : fld Try.prog 73 8 = some (8, false, 1) := by kernel_rfl
theorem Try.fieldAddr73_8 {b o : Nat} : afieldAddr Try.prog 73 (.pointer (some ⟨b, o, none⟩)) 8 = mkFieldAddr b o (some (8, false, 1)) := afieldAddr_eq' Try.fld73_8
theorem Try.fld73_9 : fld Try.prog 73 9 = some (9, false, 1) := by kernel_rfl
theorem Try.fieldAddr73_9 {b o : Nat} : afieldAddr Try.prog 73 (.pointer (some ⟨b, o, none⟩)) 9 = mkFieldAddr b o (some (9, false, 1)) := afieldAddr_eq' Try.fld73_9
theorem Try.fld73_10 : fld Try.prog 73 10 = some (10, false, 1) := by kernel_rfl
theorem Try.fieldAddr73_10 {b o : Nat} : afieldAddr Try.prog 73 (.pointer (some ⟨b, o, none⟩)) 10 = mkFieldAddr b o (some (10, false, 1)) := afieldAddr_eq' Try.fld73_10
theorem Try.fld76_0 : fld Try.prog 76 0 = some (0, false, 1) := by kernel_rfl
theorem Try.fieldAddr76_0 {b o : Nat} : afieldAddr Try.prog 76 (.pointer (some ⟨b, o, none⟩)) 0 = mkFieldAddr b o (some (0, false, 1)) := afieldAddr_eq' Try.fld76_0
theorem Try.fld76_1 : fld Try.prog 76 1 = some (1, true, 4) := by kernel_rfl
theorem Try.fieldAddr76_1 {b o : Nat} : afieldAddr Try.prog 76 (.pointer (some ⟨b, o, none⟩)) 1 = mkFieldAddr b o (some (1, true, 4)) := afieldAddr_eq' Try.fld76_1
theorem Try.field76_1 {c : Array Value} : afield Try.prog 76 (.agg c) 1 = mkField c (some (1, true, 4)) := afield_eq' Try.fld76_1
theorem Try.fld76_2 : fld Try.prog 76 2 = some (5, false, 1) := by kernel_rfl
theorem Try.fieldAddr76_2 {b o : Nat} : afieldAddr Try.prog 76 (.pointer (some ⟨b, o, none⟩)) 2 = mkFieldAddr b o (some (5, false, 1)) := afieldAddr_eq' Try.fld76_2
theorem Try.fld78_0 : fld Try.prog 78 0 = some (0, true, 20) := by kernel_rfl
theorem Try.fieldAddr78_0 {b o : Nat} : afieldAddr Try.prog 78 (.pointer (some ⟨b, o, none⟩)) 0 = mkFieldAddr b o (some (0, true, 20)) := afieldAddr_eq' Try.fld78_0
theorem Try.fld78_1 : fld Try.prog 78 1 = some (20, true, 4) := by kernel_rfl
theorem Try.fieldAddr78_1 {b o : Nat} : afieldAddr Try.prog 78 (.pointer (some ⟨b, o, none⟩)) 1 = mkFieldAddr b o (some (20, true, 4)) := afieldAddr_eq' Try.fld78_1
theorem Try.fld101_0 : fld Try.prog 101 0 = some (0, false, 1) := by kernel_rfl
theorem Try.fieldAddr101_0 {b o : Nat} : afieldAddr Try.prog 101 (.pointer (some ⟨b, o, none⟩)) 0 = mkFieldAddr b o (some (0, false, 1)) := afieldAddr_eq' Try.fld101_0
theorem Try.fld101_1 : fld Try.prog 101 1 = some (1, true, 24) := by kernel_rfl
theorem Try.fieldAddr101_1 {b o : Nat} : afieldAddr Try.prog 101 (.pointer (some ⟨b, o, none⟩)) 1 = mkFieldAddr b o (some (1, true, 24)) := afieldAddr_eq' Try.fld101_1
theorem Try.fld101_2 : fld Try.prog 101 2 = some (25, true, 6) := by kernel_rfl
theorem Try.fieldAddr101_2 {b o : Nat} : afieldAddr Try.prog 101 (.pointer (some ⟨b, o, none⟩)) 2 = mkFieldAddr b o (some (25, true, 6)) := afieldAddr_eq' Try.fld101_2
theorem Try.fld101_3 : fld Try.prog 101 3 = some (31, true, 4) := by kernel_rfl
theorem Try.fieldAddr101_3 {b o : Nat} : afieldAddr Try.prog 101 (.pointer (some ⟨b, o, none⟩)) 3 = mkFieldAddr b o (some (31, true, 4)) := afieldAddr_eq' Try.fld101_3
theorem Try.fld101_4 : fld Try.prog 101 4 = some (35, false, 1) := by kernel_rfl
theorem Try.fieldAddr101_4 {b o : Nat} : afieldAddr Try.prog 101 (.pointer (some ⟨b, o, none⟩)) 4 = mkFieldAddr b o (some (35, false, 1)) := afieldAddr_eq' Try.fld101_4
theorem Try.fld107_0 : fld Try.prog 107 0 = some (0, false, 1) := by kernel_rfl
theorem Try.fieldAddr107_0 {b o : Nat} : afieldAddr Try.prog 107 (.pointer (some ⟨b, o, none⟩)) 0 = mkFieldAddr b o (some (0, false, 1)) := afieldAddr_eq' Try.fld107_0
theorem Try.fld107_1 : fld Try.prog 107 1 = some (1, false, 1) := by kernel_rfl
theorem Try.fieldAddr107_1 {b o : Nat} : afieldAddr Try.prog 107 (.pointer (some ⟨b, o, none⟩)) 1 = mkFieldAddr b o (some (1, false, 1)) := afieldAddr_eq' Try.fld107_1
theorem Try.zero26 : zeroCellsOf Try.prog 26 = some ((Array.replicate 20 (Value.int IntKind.u8 (0)))) := by kernel_rfl
theorem Try.alloc26 {h : AH} : aalloc Try.prog h 26 = mkAlloc h (some ((Array.replicate 20 (Value.int IntKind.u8 (0))))) := aalloc_eq' Try.zero26
theorem Try.zero29 : zeroCellsOf Try.prog 29 = some (#[Value.int IntKind.u64 (0), Value.int IntKind.u64 (0), Value.int IntKind.u64 (0), Value.int IntKind.u64 (0)]) := by kernel_rfl
theorem Try.alloc29 {h : AH} : aalloc Try.prog h 29 = mkAlloc h (some (#[Value.int IntKind.u64 (0), Value.int IntKind.u64 (0), Value.int IntKind.u64 (0), Value.int IntKind.u64 (0)])) := aalloc_eq' Try.zero29
theorem Try.zero33 : zeroCellsOf Try.prog 33 = some (#[Value.int IntKind.u64 (0)] ++ (#[Value.int IntKind.u64 (0), Value.int IntKind.u64 (0), Value.int IntKind.u64 (0), Value.int IntKind.u64 (0)] ++ (#[Value.slice none 0 0, Value.slice none 0 0]))) := by kernel_rfl
theorem Try.zero35 : zeroCellsOf Try.prog 35 = some ((Array.replicate 20 (Value.int IntKind.u8 (0))) ++ (#[Value.int IntKind.u64 (0), Value.int IntKind.u64 (0), Value.int IntKind.u64 (0), Value.int IntKind.u64 (0), Value.int IntKind.u64 (0), Value.slice none 0 0, Value.slice none 0 0])) := by kernel_rfl
theorem Try.alloc35 {h : AH} : aalloc Try.prog h 35 = mkAlloc h (some ((Array.replicate 20 (Value.int IntKind.u8 (0))) ++ (#[Value.int IntKind.u64 (0), Value.int IntKind.u64 (0), Value.int IntKind.u64 (0), Value.int IntKind.u64 (0), Value.int IntKind.u64 (0), Value.slice none 0 0, Value.slice none 0 0]))) := aalloc_eq' Try.zero35
theorem Try.zero52 : zeroCellsOf Try.prog 52 = some (#[Value.int IntKind.u8 (0)] ++ ((Array.replicate 20 (Value.int IntKind.u8 (0))) ++ ((Array.replicate 20 (Value.int IntKind.u8 (0))) ++ (#[Value.int IntKind.u64 (0), Value.int IntKind.u64 (0), Value.int IntKind.u64 (0), Value.int IntKind.u64 (0)] ++ (#[Value.int IntKind.u64 (0), Value.int IntKind.u64 (0), Value.int IntKind.u64 (0), Value.int IntKind.u64 (0)] ++ (#[Value.int IntKind.u64 (0), Value.slice none 0 0])))))) := by kernel_rfl
theorem Try.alloc52 {h : AH} : aalloc Try.prog h 52 = mkAlloc h (some (#[Value.int IntKind.u8 (0)] ++ ((Array.replicate 20 (Value.int IntKind.u8 (0))) ++ ((Array.replicate 20 (Value.int IntKind.u8 (0))) ++ (#[Value.int IntKind.u64 (0), Value.int IntKind.u64 (0), Value.int IntKind.u64 (0), Value.int IntKind.u64 (0)] ++ (#[Value.int IntKind.u64 (0), Value.int IntKind.u64 (0), Value.int IntKind.u64 (0), Value.int IntKind.u64 (0)] ++ (#[Value.int IntKind.u64 (0), Value.slice none 0 0]))))))) := aalloc_eq' Try.zero52
theorem Try.zero65 : zeroCellsOf Try.prog 65 = some (#[Value.int IntKind.u64 (0), Value.int IntKind.u64 (0), Value.int IntKind.u64 (0), Value.int IntKind.u64 (0)] ++ (#[Value.int IntKind.u64 (0), Value.int IntKind.u64 (0), Value.int IntKind.u64 (0), Value.int IntKind.u64 (0)])) := by kernel_rfl
theorem Try.alloc65 {h : AH} : aalloc Try.prog h 65 = mkAlloc h (some (#[Value.int IntKind.u64 (0), Value.int IntKind.u64 (0), Value.int IntKind.u64 (0), Value.int IntKind.u64 (0)] ++ (#[Value.int IntKind.u64 (0), Value.int IntKind.u64 (0), Value.int IntKind.u64 (0), Value.int IntKind.u64 (0)]))) := aalloc_eq' Try.zero65
theorem Try.zero73 : zeroCellsOf Try.prog 73 = some (#[Value.map none, Value.map none, Value.map none, Value.map none, Value.map none, Value.map none, Value.int IntKind.i64 (0), Value.slice none 0 0, Value.slice none 0 0, Value.slice none 0 0, Value.int IntKind.i64 (0)]) := by kernel_rfl
theorem Try.zero76 : zeroCellsOf Try.prog 76 = some (#[Value.int IntKind.u64 (0)] ++ (#[Value.int IntKind.u64 (0), Value.int IntKind.u64 (0), Value.int IntKind.u64 (0), Value.int IntKind.u64 (0)] ++ (#[Value.string { data := { toList := [] } }]))) := by kernel_rfl
theorem Try.alloc76 {h : AH} : aalloc Try.prog h 76 = mkAlloc h (some (#[Value.int IntKind.u64 (0)] ++ (#[Value.int IntKind.u64 (0), Value.int IntKind.u64 (0), Value.int IntKind.u64 (0), Value.int IntKind.u64 (0)] ++ (#[Value.string { data := { toList := [] } }])))) := aalloc_eq' Try.zero76
theorem Try.zero78 : zeroCellsOf Try.prog 78 = some ((Array.replicate 20 (Value.int IntKind.u8 (0))) ++ (#[Value.int IntKind.u64 (0), Value.int IntKind.u64 (0), Value.int IntKind.u64 (0), Value.int IntKind.u64 (0)])) := by kernel_rfl
theorem Try.alloc78 {h : AH} : aalloc Try.prog h 78 = mkAlloc h (some ((Array.replicate 20 (Value.int IntKind.u8 (0))) ++ (#[Value.int IntKind.u64 (0), Value.int IntKind.u64 (0), Value.int IntKind.u64 (0), Value.int IntKind.u64 (0)]))) := aalloc_eq' Try.zero78
theorem Try.zero101 : zeroCellsOf Try.prog 101 = some (#[Value.int IntKind.i64 (0)] ++ (#[Value.int IntKind.u8 (0), Value.int IntKind.u8 (0), Value.int IntKind.u8 (0), Value.int IntKind.u8 (0), Value.int IntKind.u8 (0), Value.int IntKind.u8 (0), Value.int IntKind.u8 (0), Value.int IntKind.u8 (0), Value.int IntKind.u8 (0), Value.int IntKind.u8 (0), Value.int IntKind.u8 (0), Value.int IntKind.u8 (0), Value.int IntKind.u8 (0), Value.int IntKind.u8 (0), Value.int IntKind.u8 (0), Value.int IntKind.u8 (0), Value.int IntKind.u8 (0), Value.int IntKind.u8 (0), Value.int IntKind.u8 (0), Value.int IntKind.u8 (0), Value.int IntKind.u64 (0), Value.int IntKind.u64 (0), Value.int IntKind.u64 (0), Value.int IntKind.u64 (0)] ++ (#[Value.int IntKind.u64 (0), Value.int IntKind.u64 (0), Value.int IntKind.u64 (0), Value.int IntKind.u64 (0), Value.int IntKind.u64 (0), Value.string { data := { toList := [] } }] ++ (#[Value.int IntKind.u64 (0), Value.int IntKind.u64 (0), Value.int IntKind.u64 (0), Value.int IntKind.u64 (0)] ++ (#[Value.int IntKind.i64 (0)]))))) := by kernel_rfl
theorem Try.alloc101 {h : AH} : aalloc Try.prog h 101 = mkAlloc h (some (#[Value.int IntKind.i64 (0)] ++ (#[Value.int IntKind.u8 (0), Value.int IntKind.u8 (0), Value.int IntKind.u8 (0), Value.int IntKind.u8 (0), Value.int IntKind.u8 (0), Value.int IntKind.u8 (0), Value.int IntKind.u8 (0), Value.int IntKind.u8 (0), Value.int IntKind.u8 (0), Value.int IntKind.u8 (0), Value.int IntKind.u8 (0), Value.int IntKind.u8 (0), Value.int IntKind.u8 (0), Value.int IntKind.u8 (0), Value.int IntKind.u8 (0), Value.int IntKind.u8 (0), Value.int IntKind.u8 (0), Value.int IntKind.u8 (0), Value.int IntKind.u8 (0), Value.int IntKind.u8 (0), Value.int IntKind.u64 (0), Value.int IntKind.u64 (0), Value.int IntKind.u64 (0), Value.int IntKind.u64 (0)] ++ (#[Value.int IntKind.u64 (0), Value.int IntKind.u64 (0), Value.int IntKind.u64 (0), Value.int IntKind.u64 (0), Value.int IntKind.u64 (0), Value.string { data := { toList := [] } }] ++ (#[Value.int IntKind.u64 (0), Value.int IntKind.u64 (0), Value.int IntKind.u64 (0), Value.int IntKind.u64 (0)] ++ (#[Value.int IntKind.i64 (0)])))))) := aalloc_eq' Try.zero101
theorem Try.zero107 : zeroCellsOf Try.prog 107 = some (#[Value.int IntKind.i64 (0), Value.int IntKind.i64 (0)]) := by kernel_rfl
theorem Try.plc33 : plc Try.prog 33 = some [(0, 1), (1, 4), (5, 1), (6, 1)] := by kernel_rfl
theorem Try.build33 {ps : List (Nat × Value)} : abuild Try.prog 33 ps = mkBuild ps (some (#[Value.int IntKind.u64 (0)] ++ (#[Value.int IntKind.u64 (0), Value.int IntKind.u64 (0), Value.int IntKind.u64 (0), Value.int IntKind.u64 (0)] ++ (#[Value.slice none 0 0, Value.slice none 0 0])))) (some [(0, 1), (1, 4), (5, 1), (6, 1)]) := abuild_eq' Try.zero33 Try.plc33
theorem Try.plc35 : plc Try.prog 35 = some [(0, 20), (20, 7)] := by kernel_rfl
theorem Try.build35 {ps : List (Nat × Value)} : abuild Try.prog 35 ps = mkBuild ps (some ((Array.replicate 20 (Value.int IntKind.u8 (0))) ++ (#[Value.int IntKind.u64 (0), Value.int IntKind.u64 (0), Value.int IntKind.u64 (0), Value.int IntKind.u64 (0), Value.int IntKind.u64 (0), Value.slice none 0 0, Value.slice none 0 0]))) (some [(0, 20), (20, 7)]) := abuild_eq' Try.zero35 Try.plc35
theorem Try.plc65 : plc Try.prog 65 = some [(0, 4), (4, 4)] := by kernel_rfl
theorem Try.build65 {ps : List (Nat × Value)} : abuild Try.prog 65 ps = mkBuild ps (some (#[Value.int IntKind.u64 (0), Value.int IntKind.u64 (0), Value.int IntKind.u64 (0), Value.int IntKind.u64 (0)] ++ (#[Value.int IntKind.u64 (0), Value.int IntKind.u64 (0), Value.int IntKind.u64 (0), Value.int IntKind.u64 (0)]))) (some [(0, 4), (4, 4)]) := abuild_eq' Try.zero65 Try.plc65
theorem Try.plc73 : plc Try.prog 73 = some [(0, 1), (1, 1), (2, 1), (3, 1), (4, 1), (5, 1), (6, 1), (7, 1), (8, 1), (9, 1), (10, 1)] := by kernel_rfl
theorem Try.build73 {ps : List (Nat × Value)} : abuild Try.prog 73 ps = mkBuild ps (some (#[Value.map none, Value.map none, Value.map none, Value.map none, Value.map none, Value.map none, Value.int IntKind.i64 (0), Value.slice none 0 0, Value.slice none 0 0, Value.slice none 0 0, Value.int IntKind.i64 (0)])) (some [(0, 1), (1, 1), (2, 1), (3, 1), (4, 1), (5, 1), (6, 1), (7, 1), (8, 1), (9, 1), (10, 1)]) := abuild_eq' Try.zero73 Try.plc73
theorem Try.plc76 : plc Try.prog 76 = some [(0, 1), (1, 4), (5, 1)] := by kernel_rfl
theorem Try.build76 {ps : List (Nat × Value)} : abuild Try.prog 76 ps = mkBuild ps (some (#[Value.int IntKind.u64 (0)] ++ (#[Value.int IntKind.u64 (0), Value.int IntKind.u64 (0), Value.int IntKind.u64 (0), Value.int IntKind.u64 (0)] ++ (#[Value.string { data := { toList := [] } }])))) (some [(0, 1), (1, 4), (5, 1)]) := abuild_eq' Try.zero76 Try.plc76
theorem Try.plc78 : plc Try.prog 78 = some [(0, 20), (20, 4)] := by kernel_rfl
theorem Try.build78 {ps : List (Nat × Value)} : abuild Try.prog 78 ps = mkBuild ps (some ((Array.replicate 20 (Value.int IntKind.u8 (0))) ++ (#[Value.int IntKind.u64 (0), Value.int IntKind.u64 (0), Value.int IntKind.u64 (0), Value.int IntKind.u64 (0)]))) (some [(0, 20), (20, 4)]) := abuild_eq' Try.zero78 Try.plc78
theorem Try.plc101 : plc Try.prog 101 = some [(0, 1), (1, 24), (25, 6), (31, 4), (35, 1)] := by kernel_rfl
theorem Try.build101 {ps : List (Nat × Value)} : abuild Try.prog 101 ps = mkBuild ps (some (#[Value.int IntKind.i64 (0)] ++ (#[Value.int IntKind.u8 (0), Value.int IntKind.u8 (0), Value.int IntKind.u8 (0), Value.int IntKind.u8 (0), Value.int IntKind.u8 (0), Value.int IntKind.u8 (0), Value.int IntKind.u8 (0), Value.int IntKind.u8 (0), Value.int IntKind.u8 (0), Value.int IntKind.u8 (0), Value.int IntKind.u8 (0), Value.int IntKind.u8 (0), Value.int IntKind.u8 (0), Value.int IntKind.u8 (0), Value.int IntKind.u8 (0), Value.int IntKind.u8 (0), Value.int IntKind.u8 (0), Value.int IntKind.u8 (0), Value.int IntKind.u8 (0), Value.int IntKind.u8 (0), Value.int IntKind.u64 (0), Value.int IntKind.u64 (0), Value.int IntKind.u64 (0), Value.int IntKind.u64 (0)] ++ (#[Value.int IntKind.u64 (0), Value.int IntKind.u64 (0), Value.int IntKind.u64 (0), Value.int IntKind.u64 (0), Value.int IntKind.u64 (0), Value.string { data := { toList := [] } }] ++ (#[Value.int IntKind.u64 (0), Value.int IntKind.u64 (0), Value.int IntKind.u64 (0), Value.int IntKind.u64 (0)] ++ (#[Value.int IntKind.i64 (0)])))))) (some [(0, 1), (1, 24), (25, 6), (31, 4), (35, 1)]) := abuild_eq' Try.zero101 Try.plc101
theorem Try.plc107 : plc Try.prog 107 = some [(0, 1), (1, 1)] := by kernel_rfl
theorem Try.build107 {ps : List (Nat × Value)} : abuild Try.prog 107 ps = mkBuild ps (some (#[Value.int IntKind.i64 (0), Value.int IntKind.i64 (0)])) (some [(0, 1), (1, 1)]) := abuild_eq' Try.zero107 Try.plc107
theorem Try.arr26 : arr Try.prog 26 = some (20, false, 1) := by kernel_rfl
theorem Try.sliceA26 {h : AH} {b o : Nat} {lo hi : Option Value} : aslice Try.prog h 26 (.pointer (some ⟨b, o, none⟩)) lo hi = mkSliceA b o lo hi (some (20, false, 1)) := asliceA_eq' Try.arr26
theorem Try.buildA26 {ps : List (Nat × Value)} : abuild Try.prog 26 ps = mkBuildA ps (some ((Array.replicate 20 (Value.int IntKind.u8 (0))))) (some (20, false, 1)) := abuildA_eq' Try.zero26 Try.arr26
theorem Try.arr29 : arr Try.prog 29 = some (4, false, 1) := by kernel_rfl
theorem Try.indexA29 {b o : Nat} {k : IntKind} {i : Int} : aindexAddr Try.prog 29 (.pointer (some ⟨b, o, none⟩)) (.int k i) = mkIndexA b o i (some (4, false, 1)) := aindexA_eq' Try.arr29
theorem Try.buildA29 {ps : List (Nat × Value)} : abuild Try.prog 29 ps = mkBuildA ps (some (#[Value.int IntKind.u64 (0), Value.int IntKind.u64 (0), Value.int IntKind.u64 (0), Value.int IntKind.u64 (0)])) (some (4, false, 1)) := abuildA_eq' Try.zero29 Try.arr29
theorem Try.slc22 : slc Try.prog 22 = some (true, 27, 112) := by kernel_rfl
theorem Try.indexV22 {α : Type} {enc : α → List Value} {s : Sl α} {k : IntKind} {i : Int} : aindexAddr Try.prog 22 (slV enc s) (.int k i) = mkIndexZ (flatV enc s.l) s.l.length i (some (true, 27, 112)) := aindex_slV Try.slc22
theorem Try.lenV22 {h : AH} {α : Type} {enc : α → List Value} {s : Sl α} : alen Try.prog h 22 (slV enc s) = some (.int .i64 (s.l.length : Nat)) := alen_slV Try.slc22
theorem Try.slz22 : slz Try.prog 22 = some ((Array.replicate 20 (Value.int IntKind.u8 (0))) ++ (#[Value.int IntKind.u64 (0), Value.int IntKind.u64 (0), Value.int IntKind.u64 (0), Value.int IntKind.u64 (0), Value.int IntKind.u64 (0), Value.slice none 0 0, Value.slice none 0 0])) := by kernel_rfl
theorem Try.buildS22 {h : AH} {n : Nat} {ps : List (Nat × Value)} : abuildSlice Try.prog h 22 n ps = mkBuildS h n ps (some ((Array.replicate 20 (Value.int IntKind.u8 (0))) ++ (#[Value.int IntKind.u64 (0), Value.int IntKind.u64 (0), Value.int IntKind.u64 (0), Value.int IntKind.u64 (0), Value.int IntKind.u64 (0), Value.slice none 0 0, Value.slice none 0 0]))) := abuildS_eq' Try.slz22
theorem Try.append22 {h : AH} {u : TypeId} {s x : Value} (hn : nint Try.prog u = true) : aappend Try.prog h 22 u s x = orT (mkApp h s (some (true, 27, 112)) (mkSrc h x (some (true, 27, 112)) true)) (aappendT Try.prog h 22 u s x) := aappend_eq' Try.slc22 Try.slz22 hn
theorem Try.slc30 : slc Try.prog 30 = some (false, 1, 1) := by kernel_rfl
theorem Try.lenV30 {h : AH} {α : Type} {enc : α → List Value} {s : Sl α} : alen Try.prog h 30 (slV enc s) = some (.int .i64 (s.l.length : Nat)) := alen_slV Try.slc30
theorem Try.slc31 : slc Try.prog 31 = some (true, 8, 64) := by kernel_rfl
theorem Try.lenV31 {h : AH} {α : Type} {enc : α → List Value} {s : Sl α} : alen Try.prog h 31 (slV enc s) = some (.int .i64 (s.l.length : Nat)) := alen_slV Try.slc31
theorem Try.slz31 : slz Try.prog 31 = some (#[Value.int IntKind.u64 (0), Value.int IntKind.u64 (0), Value.int IntKind.u64 (0), Value.int IntKind.u64 (0)] ++ (#[Value.int IntKind.u64 (0), Value.int IntKind.u64 (0), Value.int IntKind.u64 (0), Value.int IntKind.u64 (0)])) := by kernel_rfl
theorem Try.buildS31 {h : AH} {n : Nat} {ps : List (Nat × Value)} : abuildSlice Try.prog h 31 n ps = mkBuildS h n ps (some (#[Value.int IntKind.u64 (0), Value.int IntKind.u64 (0), Value.int IntKind.u64 (0), Value.int IntKind.u64 (0)] ++ (#[Value.int IntKind.u64 (0), Value.int IntKind.u64 (0), Value.int IntKind.u64 (0), Value.int IntKind.u64 (0)]))) := abuildS_eq' Try.slz31
theorem Try.append31 {h : AH} {u : TypeId} {s x : Value} (hn : nint Try.prog u = true) : aappend Try.prog h 31 u s x = orT (mkApp h s (some (true, 8, 64)) (mkSrc h x (some (true, 8, 64)) true)) (aappendT Try.prog h 31 u s x) := aappend_eq' Try.slc31 Try.slz31 hn
theorem Try.slc45 : slc Try.prog 45 = some (true, 51, 144) := by kernel_rfl
theorem Try.indexV45 {α : Type} {enc : α → List Value} {s : Sl α} {k : IntKind} {i : Int} : aindexAddr Try.prog 45 (slV enc s) (.int k i) = mkIndexZ (flatV enc s.l) s.l.length i (some (true, 51, 144)) := aindex_slV Try.slc45
theorem Try.lenV45 {h : AH} {α : Type} {enc : α → List Value} {s : Sl α} : alen Try.prog h 45 (slV enc s) = some (.int .i64 (s.l.length : Nat)) := alen_slV Try.slc45
theorem Try.slc59 : slc Try.prog 59 = some (true, 22, 72) := by kernel_rfl
theorem Try.len59 {h : AH} {a : Option Addr} {l c : Nat} : alen Try.prog h 59 (.slice a l c) = some (.int .i64 l) := alen_eq' Try.slc59
theorem Try.slc70 : slc Try.prog 70 = some (true, 36, 160) := by kernel_rfl
theorem Try.indexS70 {b o l c : Nat} {k : IntKind} {i : Int} : aindexAddr Try.prog 70 (.slice (some ⟨b, o, none⟩) l c) (.int k i) = mkIndexS b o l i (some (true, 36, 160)) := aindexS_eq' Try.slc70
theorem Try.len70 {h : AH} {a : Option Addr} {l c : Nat} : alen Try.prog h 70 (.slice a l c) = some (.int .i64 l) := alen_eq' Try.slc70
theorem Try.slz70 : slz Try.prog 70 = some (#[Value.int IntKind.i64 (0)] ++ (#[Value.int IntKind.u8 (0), Value.int IntKind.u8 (0), Value.int IntKind.u8 (0), Value.int IntKind.u8 (0), Value.int IntKind.u8 (0), Value.int IntKind.u8 (0), Value.int IntKind.u8 (0), Value.int IntKind.u8 (0), Value.int IntKind.u8 (0), Value.int IntKind.u8 (0), Value.int IntKind.u8 (0), Value.int IntKind.u8 (0), Value.int IntKind.u8 (0), Value.int IntKind.u8 (0), Value.int IntKind.u8 (0), Value.int IntKind.u8 (0), Value.int IntKind.u8 (0), Value.int IntKind.u8 (0), Value.int IntKind.u8 (0), Value.int IntKind.u8 (0), Value.int IntKind.u64 (0), Value.int IntKind.u64 (0), Value.int IntKind.u64 (0), Value.int IntKind.u64 (0)] ++ (#[Value.int IntKind.u64 (0), Value.int IntKind.u64 (0), Value.int IntKind.u64 (0), Value.int IntKind.u64 (0), Value.int IntKind.u64 (0), Value.string { data := { toList := [] } }] ++ (#[Value.int IntKind.u64 (0), Value.int IntKind.u64 (0), Value.int IntKind.u64 (0), Value.int IntKind.u64 (0)] ++ (#[Value.int IntKind.i64 (0)]))))) := by kernel_rfl
theorem Try.buildS70 {h : AH} {n : Nat} {ps : List (Nat × Value)} : abuildSlice Try.prog h 70 n ps = mkBuildS h n ps (some (#[Value.int IntKind.i64 (0)] ++ (#[Value.int IntKind.u8 (0), Value.int IntKind.u8 (0), Value.int IntKind.u8 (0), Value.int IntKind.u8 (0), Value.int IntKind.u8 (0), Value.int IntKind.u8 (0), Value.int IntKind.u8 (0), Value.int IntKind.u8 (0), Value.int IntKind.u8 (0), Value.int IntKind.u8 (0), Value.int IntKind.u8 (0), Value.int IntKind.u8 (0), Value.int IntKind.u8 (0), Value.int IntKind.u8 (0), Value.int IntKind.u8 (0), Value.int IntKind.u8 (0), Value.int IntKind.u8 (0), Value.int IntKind.u8 (0), Value.int IntKind.u8 (0), Value.int IntKind.u8 (0), Value.int IntKind.u64 (0), Value.int IntKind.u64 (0), Value.int IntKind.u64 (0), Value.int IntKind.u64 (0)] ++ (#[Value.int IntKind.u64 (0), Value.int IntKind.u64 (0), Value.int IntKind.u64 (0), Value.int IntKind.u64 (0), Value.int IntKind.u64 (0), Value.string { data := { toList := [] } }] ++ (#[Value.int IntKind.u64 (0), Value.int IntKind.u64 (0), Value.int IntKind.u64 (0), Value.int IntKind.u64 (0)] ++ (#[Value.int IntKind.i64 (0)])))))) := abuildS_eq' Try.slz70
theorem Try.append70 {h : AH} {u : TypeId} {s x : Value} (hn : nint Try.prog u = true) : aappend Try.prog h 70 u s x = orT (mkApp h s (some (true, 36, 160)) (mkSrc h x (some (true, 36, 160)) true)) (aappendT Try.prog h 70 u s x) := aappend_eq' Try.slc70 Try.slz70 hn
theorem Try.slc71 : slc Try.prog 71 = some (true, 2, 16) := by kernel_rfl
theorem Try.indexS71 {b o l c : Nat} {k : IntKind} {i : Int} : aindexAddr Try.prog 71 (.slice (some ⟨b, o, none⟩) l c) (.int k i) = mkIndexS b o l i (some (true, 2, 16)) := aindexS_eq' Try.slc71
theorem Try.len71 {h : AH} {a : Option Addr} {l c : Nat} : alen Try.prog h 71 (.slice a l c) = some (.int .i64 l) := alen_eq' Try.slc71
theorem Try.slz71 : slz Try.prog 71 = some (#[Value.int IntKind.i64 (0), Value.int IntKind.i64 (0)]) := by kernel_rfl
theorem Try.buildS71 {h : AH} {n : Nat} {ps : List (Nat × Value)} : abuildSlice Try.prog h 71 n ps = mkBuildS h n ps (some (#[Value.int IntKind.i64 (0), Value.int IntKind.i64 (0)])) := abuildS_eq' Try.slz71
theorem Try.append71 {h : AH} {u : TypeId} {s x : Value} (hn : nint Try.prog u = true) : aappend Try.prog h 71 u s x = orT (mkApp h s (some (true, 2, 16)) (mkSrc h x (some (true, 2, 16)) true)) (aappendT Try.prog h 71 u s x) := aappend_eq' Try.slc71 Try.slz71 hn
theorem Try.slc80 : slc Try.prog 80 = some (true, 24, 56) := by kernel_rfl
theorem Try.indexV80 {α : Type} {enc : α → List Value} {s : Sl α} {k : IntKind} {i : Int} : aindexAddr Try.prog 80 (slV enc s) (.int k i) = mkIndexZ (flatV enc s.l) s.l.length i (some (true, 24, 56)) := aindex_slV Try.slc80
theorem Try.lenV80 {h : AH} {α : Type} {enc : α → List Value} {s : Sl α} : alen Try.prog h 80 (slV enc s) = some (.int .i64 (s.l.length : Nat)) := alen_slV Try.slc80
theorem Try.slz80 : slz Try.prog 80 = some ((Array.replicate 20 (Value.int IntKind.u8 (0))) ++ (#[Value.int IntKind.u64 (0), Value.int IntKind.u64 (0), Value.int IntKind.u64 (0), Value.int IntKind.u64 (0)])) := by kernel_rfl
theorem Try.buildS80 {h : AH} {n : Nat} {ps : List (Nat × Value)} : abuildSlice Try.prog h 80 n ps = mkBuildS h n ps (some ((Array.replicate 20 (Value.int IntKind.u8 (0))) ++ (#[Value.int IntKind.u64 (0), Value.int IntKind.u64 (0), Value.int IntKind.u64 (0), Value.int IntKind.u64 (0)]))) := abuildS_eq' Try.slz80
theorem Try.append80 {h : AH} {u : TypeId} {s x : Value} (hn : nint Try.prog u = true) : aappend Try.prog h 80 u s x = orT (mkApp h s (some (true, 24, 56)) (mkSrc h x (some (true, 24, 56)) true)) (aappendT Try.prog h 80 u s x) := aappend_eq' Try.slc80 Try.slz80 hn
theorem Try.slc87 : slc Try.prog 87 = some (true, 20, 20) := by kernel_rfl
theorem Try.indexS87 {b o l c : Nat} {k : IntKind} {i : Int} : aindexAddr Try.prog 87 (.slice (some ⟨b, o, none⟩) l c) (.int k i) = mkIndexS b o l i (some (true, 20, 20)) := aindexS_eq' Try.slc87
theorem Try.lenO87 {h : AH} {α : Type} {l : List α} {b : Nat} : alen Try.prog h 87 (outV b l) = some (.int .i64 (l.length : Nat)) := alen_outV Try.slc87
theorem Try.len87 {h : AH} {a : Option Addr} {l c : Nat} : alen Try.prog h 87 (.slice a l c) = some (.int .i64 l) := alen_eq' Try.slc87
theorem Try.sliceS87 {h : AH} {b o l c : Nat} {lo hi : Option Value} : aslice Try.prog h 87 (.slice (some ⟨b, o, none⟩) l c) lo hi = mkSliceS b o l c lo hi (some (true, 20, 20)) h[b]? := asliceS_eq' Try.slc87
theorem Try.slz87 : slz Try.prog 87 = some ((Array.replicate 20 (Value.int IntKind.u8 (0)))) := by kernel_rfl
theorem Try.buildS87 {h : AH} {n : Nat} {ps : List (Nat × Value)} : abuildSlice Try.prog h 87 n ps = mkBuildS h n ps (some ((Array.replicate 20 (Value.int IntKind.u8 (0))))) := abuildS_eq' Try.slz87
theorem Try.append87 {h : AH} {u : TypeId} {s x : Value} (hn : nint Try.prog u = true) : aappend Try.prog h 87 u s x = orT (mkApp h s (some (true, 20, 20)) (mkSrc h x (some (true, 20, 20)) true)) (aappendT Try.prog h 87 u s x) := aappend_eq' Try.slc87 Try.slz87 hn
theorem Try.slc131 : slc Try.prog 131 = some (false, 1, 8) := by kernel_rfl
theorem Try.indexS131 {b o l c : Nat} {k : IntKind} {i : Int} : aindexAddr Try.prog 131 (.slice (some ⟨b, o, none⟩) l c) (.int k i) = mkIndexS b o l i (some (false, 1, 8)) := aindexS_eq' Try.slc131
theorem Try.len131 {h : AH} {a : Option Addr} {l c : Nat} : alen Try.prog h 131 (.slice a l c) = some (.int .i64 l) := alen_eq' Try.slc131
theorem Try.slz131 : slz Try.prog 131 = some (#[Value.int IntKind.i64 (0)]) := by kernel_rfl
theorem Try.buildS131 {h : AH} {n : Nat} {ps : List (Nat × Value)} : abuildSlice Try.prog h 131 n ps = mkBuildS h n ps (some (#[Value.int IntKind.i64 (0)])) := abuildS_eq' Try.slz131
theorem Try.nint22 : nint Try.prog 22 = true := by kernel_rfl
theorem Try.nint31 : nint Try.prog 31 = true := by kernel_rfl
theorem Try.nint70 : nint Try.prog 70 = true := by kernel_rfl
theorem Try.nint71 : nint Try.prog 71 = true := by kernel_rfl
theorem Try.nint80 : nint Try.prog 80 = true := by kernel_rfl
theorem Try.nint87 : nint Try.prog 87 = true := by kernel_rfl
theorem Try.rowK26 : rowK Try.prog 26 = some (20, IntKind.u8) := by kernel_rfl
theorem Try.eqlR26 {x y : Operand} {a b : Addr20} : abinOp Try.prog .eql 26 x y (.agg (encAddr a).toArray) (.agg (encAddr b).toArray) = some (.bool (decide (a = b))) := abin_eqlAddr Try.rowK26 a b
theorem Try.neqR26 {x y : Operand} {a b : Addr20} : abinOp Try.prog .neq 26 x y (.agg (encAddr a).toArray) (.agg (encAddr b).toArray) = some (.bool (!decide (a = b))) := abin_neqAddr Try.rowK26 a b
theorem Try.rowK29 : rowK Try.prog 29 = some (4, IntKind.u64) := by kernel_rfl
theorem Try.eqlR29 {x y : Operand} {a b : Word4} : abinOp Try.prog .eql 29 x y (.agg (encWord a).toArray) (.agg (encWord b).toArray) = some (.bool (decide (a = b))) := abin_eqlWord Try.rowK29 a b
theorem Try.neqR29 {x y : Operand} {a b : Word4} : abinOp Try.prog .neq 29 x y (.agg (encWord a).toArray) (.agg (encWord b).toArray) = some (.bool (!decide (a = b))) := abin_neqWord Try.rowK29 a b
theorem Try.keyTy26 : keyTy Try.prog 26 = true := by kernel_rfl
theorem Try.mp66 : mp Try.prog 66 = some (26, Value.agg { toList := [Value.int IntKind.u64 (0), Value.int IntKind.u64 (0), Value.int IntKind.u64 (0), Value.int IntKind.u64 (0), Value.int IntKind.u64 (0), Value.string { data := { toList := [] } }] }) := by kernel_rfl
theorem Try.makeM66 {h : AH} : amMake Try.prog h 66 = some (.map (some h.length), h ++ [.map 26 #[] 0]) := amMake_eq Try.mp66 Try.keyTy26
theorem Try.look66 {h : AH} {b : Nat} {key : Value} {ok : Bool} (hk : keyed Try.prog 26 key = true) : amLookup Try.prog h 66 (.map (some b)) key ok = mkLook ok 26 (Value.agg { toList := [Value.int IntKind.u64 (0), Value.int IntKind.u64 (0), Value.int IntKind.u64 (0), Value.int IntKind.u64 (0), Value.int IntKind.u64 (0), Value.string { data := { toList := [] } }] }) key h[b]? := amLookup_mk Try.mp66 hk
theorem Try.upd66 {h : AH} {b : Nat} {key v : Value} (hk : keyed Try.prog 26 key = true) : amUpdate Try.prog h 66 (.map (some b)) key v = mkUpd h b 26 key v h[b]? := amUpdate_mk Try.mp66 hk
theorem Try.keyTy78 : keyTy Try.prog 78 = true := by kernel_rfl
theorem Try.mp67 : mp Try.prog 67 = some (78, Value.agg { toList := [Value.int IntKind.u64 (0), Value.int IntKind.u64 (0), Value.int IntKind.u64 (0), Value.int IntKind.u64 (0)] }) := by kernel_rfl
theorem Try.makeM67 {h : AH} : amMake Try.prog h 67 = some (.map (some h.length), h ++ [.map 78 #[] 0]) := amMake_eq Try.mp67 Try.keyTy78
theorem Try.look67 {h : AH} {b : Nat} {key : Value} {ok : Bool} (hk : keyed Try.prog 78 key = true) : amLookup Try.prog h 67 (.map (some b)) key ok = mkLook ok 78 (Value.agg { toList := [Value.int IntKind.u64 (0), Value.int IntKind.u64 (0), Value.int IntKind.u64 (0), Value.int IntKind.u64 (0)] }) key h[b]? := amLookup_mk Try.mp67 hk
theorem Try.upd67 {h : AH} {b : Nat} {key v : Value} (hk : keyed Try.prog 78 key = true) : amUpdate Try.prog h 67 (.map (some b)) key v = mkUpd h b 78 key v h[b]? := amUpdate_mk Try.mp67 hk
theorem Try.mp68 : mp Try.prog 68 = some (26, Value.int IntKind.i64 (0)) := by kernel_rfl
theorem Try.makeM68 {h : AH} : amMake Try.prog h 68 = some (.map (some h.length), h ++ [.map 26 #[] 0]) := amMake_eq Try.mp68 Try.keyTy26
theorem Try.look68 {h : AH} {b : Nat} {key : Value} {ok : Bool} (hk : keyed Try.prog 26 key = true) : amLookup Try.prog h 68 (.map (some b)) key ok = mkLook ok 26 (Value.int IntKind.i64 (0)) key h[b]? := amLookup_mk Try.mp68 hk
theorem Try.mp69 : mp Try.prog 69 = some (78, Value.int IntKind.i64 (0)) := by kernel_rfl
theorem Try.makeM69 {h : AH} : amMake Try.prog h 69 = some (.map (some h.length), h ++ [.map 78 #[] 0]) := amMake_eq Try.mp69 Try.keyTy78
theorem Try.look69 {h : AH} {b : Nat} {key : Value} {ok : Bool} (hk : keyed Try.prog 78 key = true) : amLookup Try.prog h 69 (.map (some b)) key ok = mkLook ok 78 (Value.int IntKind.i64 (0)) key h[b]? := amLookup_mk Try.mp69 hk
theorem Try.mp79 : mp Try.prog 79 = some (26, Value.slice none 0 0) := by kernel_rfl
theorem Try.makeM79 {h : AH} : amMake Try.prog h 79 = some (.map (some h.length), h ++ [.map 26 #[] 0]) := amMake_eq Try.mp79 Try.keyTy26
theorem Try.look79 {h : AH} {b : Nat} {key : Value} {ok : Bool} (hk : keyed Try.prog 26 key = true) : amLookup Try.prog h 79 (.map (some b)) key ok = mkLook ok 26 (Value.slice none 0 0) key h[b]? := amLookup_mk Try.mp79 hk
theorem Try.hb7 : hasBody Try.prog 7 = true := by kernel_rfl
theorem Try.hb8 : hasBody Try.prog 8 = true := by kernel_rfl
theorem Try.hb10 : hasBody Try.prog 10 = true := by kernel_rfl
theorem Try.hb11 : hasBody Try.prog 11 = true := by kernel_rfl
theorem Try.hb15 : hasBody Try.prog 15 = true := by kernel_rfl
theorem Try.hb18 : hasBody Try.prog 18 = true := by kernel_rfl
theorem Try.hb19 : hasBody Try.prog 19 = true := by kernel_rfl
theorem Try.hb20 : hasBody Try.prog 20 = true := by kernel_rfl
theorem Try.hb21 : hasBody Try.prog 21 = true := by kernel_rfl
theorem Try.hb22 : hasBody Try.prog 22 = true := by kernel_rfl
theorem Try.hb23 : hasBody Try.prog 23 = true := by kernel_rfl
theorem Try.hb24 : hasBody Try.prog 24 = true := by kernel_rfl
theorem Try.hb25 : hasBody Try.prog 25 = true := by kernel_rfl
theorem Try.hb26 : hasBody Try.prog 26 = true := by kernel_rfl
theorem Try.hb27 : hasBody Try.prog 27 = true := by kernel_rfl
theorem Try.hb28 : hasBody Try.prog 28 = true := by kernel_rfl
theorem Try.hb29 : hasBody Try.prog 29 = true := by kernel_rfl
theorem Try.hb30 : hasBody Try.prog 30 = true := by kernel_rfl
theorem Try.hb32 : hasBody Try.prog 32 = true := by kernel_rfl
theorem Try.hb33 : hasBody Try.prog 33 = true := by kernel_rfl
theorem Try.hb34 : hasBody Try.prog 34 = true := by kernel_rfl
theorem Try.hb36 : hasBody Try.prog 36 = true := by kernel_rfl
theorem Try.hb37 : hasBody Try.prog 37 = true := by kernel_rfl
theorem Try.hb38 : hasBody Try.prog 38 = true := by kernel_rfl
theorem Try.hb39 : hasBody Try.prog 39 = true := by kernel_rfl
theorem Try.hb40 : hasBody Try.prog 40 = true := by kernel_rfl
theorem Try.hb41 : hasBody Try.prog 41 = true := by kernel_rfl
theorem Try.hb42 : hasBody Try.prog 42 = true := by kernel_rfl
theorem Try.hb43 : hasBody Try.prog 43 = true := by kernel_rfl
theorem Try.hb45 : hasBody Try.prog 45 = true := by kernel_rfl
theorem Try.hb46 : hasBody Try.prog 46 = true := by kernel_rfl
theorem Try.hb47 : hasBody Try.prog 47 = true := by kernel_rfl
theorem Try.hb49 : hasBody Try.prog 49 = true := by kernel_rfl
theorem Try.hb50 : hasBody Try.prog 50 = true := by kernel_rfl
theorem Try.hb51 : hasBody Try.prog 51 = true := by kernel_rfl
theorem Try.hb52 : hasBody Try.prog 52 = true := by kernel_rfl
theorem Try.hb53 : hasBody Try.prog 53 = true := by kernel_rfl
theorem Try.hb54 : hasBody Try.prog 54 = true := by kernel_rfl
theorem Try.hb55 : hasBody Try.prog 55 = true := by kernel_rfl
theorem Try.hb56 : hasBody Try.prog 56 = true := by kernel_rfl
theorem Try.hb58 : hasBody Try.prog 58 = true := by kernel_rfl
theorem Try.hb59 : hasBody Try.prog 59 = true := by kernel_rfl
theorem Try.hb64 : hasBody Try.prog 64 = true := by kernel_rfl
theorem Try.hb67 : hasBody Try.prog 67 = true := by kernel_rfl
theorem Try.hb71 : hasBody Try.prog 71 = true := by kernel_rfl
theorem Try.cmp83 {h : AH} {x y : Value} : acall Try.prog h (.func (.func 83) #[] #[]) #[x, y] = aval h (acompare h x y) := acall_compare (by kernel_rfl) (by kernel_rfl)
theorem Try.add64_65 {h : AH} {x y c : Value} : acall Try.prog h (.func (.func 65) #[] #[]) #[x, y, c] = aval h (acarry true x y c) := acall_add64 (by kernel_rfl) (by kernel_rfl)
theorem Try.sub64_66 {h : AH} {x y c : Value} : acall Try.prog h (.func (.func 66) #[] #[]) #[x, y, c] = aval h (acarry false x y c) := acall_sub64 (by kernel_rfl) (by kernel_rfl) (by kernel_rfl)
attribute [go_sem] Try.load2 Try.store2 Try.load3 Try.store3 Try.load9
attribute [go_sem] Try.load26 Try.store26 Try.load27 Try.store27 Try.load29 Try.store29
attribute [go_sem] Try.load30 Try.loadF30 Try.load31 Try.loadF31 Try.store35 Try.load37
attribute [go_sem] Try.loadF52 Try.store52 Try.load59 Try.store59
attribute [go_sem] Try.store65 Try.load66 Try.load67 Try.load68 Try.load69
attribute [go_sem] Try.load70 Try.store70 Try.load71 Try.store71 Try.store73 Try.load76 Try.store76 Try.load78 Try.loadF78 Try.store78 Try.load79
attribute [go_sem] Try.load80 Try.store80 Try.load87 Try.store87
attribute [go_sem] Try.load101 Try.store101 Try.load107
attribute [go_sem] Try.fieldAddr33_0 Try.fieldAddr33_1
attribute [go_sem] Try.fieldAddr33_2 Try.fieldAddrF33_2 Try.fieldAddr33_3 Try.fieldAddrF33_3 Try.fieldAddr35_0 Try.fieldAddr35_1 Try.fieldAddrF35_1
attribute [go_sem] Try.fieldAddr52_1 Try.fieldAddr52_3 Try.fieldAddr52_4 Try.fieldAddrF52_6 Try.fieldAddr65_0 Try.fieldAddr65_1
attribute [go_sem] Try.fieldAddr73_0 Try.fieldAddr73_1 Try.fieldAddr73_2 Try.fieldAddr73_3 Try.fieldAddr73_4
attribute [go_sem] Try.fieldAddr73_5 Try.fieldAddr73_6 Try.fieldAddr73_7 Try.fieldAddr73_8 Try.fieldAddr73_9 Try.fieldAddr73_10 Try.fieldAddr76_0 Try.fieldAddr76_1 Try.field76_1 Try.fieldAddr76_2
attribute [go_sem] Try.fieldAddr78_0 Try.fieldAddr78_1 Try.fieldAddr101_0 Try.fieldAddr101_1 Try.fieldAddr101_2 Try.fieldAddr101_3 Try.fieldAddr101_4
attribute [go_sem] Try.fieldAddr107_0 Try.fieldAddr107_1
attribute [go_sem] Try.alloc26 Try.alloc29 Try.alloc35
attribute [go_sem] Try.alloc52 Try.alloc65 Try.alloc76
attribute [go_sem] Try.alloc78 Try.alloc101
attribute [go_sem] Try.build33 Try.build35 Try.build65 Try.build73 Try.build76 Try.build78 Try.build101 Try.build107
attribute [go_sem] Try.sliceA26 Try.buildA26 Try.indexA29 Try.buildA29
attribute [go_sem] Try.indexV22 Try.lenV22 Try.buildS22 Try.append22 Try.lenV30 Try.lenV31
attribute [go_sem] Try.buildS31 Try.append31 Try.indexV45 Try.lenV45 Try.len59 Try.indexS70
attribute [go_sem] Try.len70 Try.buildS70 Try.append70 Try.indexS71 Try.len71 Try.buildS71 Try.append71 Try.indexV80 Try.lenV80
attribute [go_sem] Try.buildS80 Try.append80 Try.indexS87 Try.lenO87 Try.len87 Try.sliceS87 Try.buildS87 Try.append87 Try.indexS131
attribute [go_sem] Try.len131 Try.buildS131 Try.nint22 Try.nint31 Try.nint70 Try.nint71 Try.nint80 Try.nint87
attribute [go_sem] Try.eqlR26 Try.neqR26 Try.eqlR29 Try.neqR29 Try.makeM66 Try.look66 Try.upd66 Try.makeM67 Try.look67 Try.upd67 Try.makeM68 Try.look68 Try.makeM69 Try.look69 Try.makeM79 Try.look79
attribute [go_sem] Try.hb7 Try.hb8 Try.hb10 Try.hb11 Try.hb15 Try.hb18 Try.hb19 Try.hb20 Try.hb21 Try.hb22 Try.hb23 Try.hb24 Try.hb25 Try.hb26 Try.hb27 Try.hb28 Try.hb29 Try.hb30 Try.hb32 Try.hb33 Try.hb34 Try.hb36 Try.hb37 Try.hb38 Try.hb39 Try.hb40 Try.hb41 Try.hb42
attribute [go_sem] Try.hb43 Try.hb45 Try.hb46 Try.hb47 Try.hb49 Try.hb50 Try.hb51 Try.hb52 Try.hb53 Try.hb54 Try.hb55 Try.hb56 Try.hb58 Try.hb59 Try.hb64 Try.hb67 Try.hb71
attribute [go_sem] Try.cmp83 Try.add64_65 Try.sub64_66
end Go.Proofs

set_option linter.unusedSimpArgs false
set_option linter.unusedVariables false
set_option maxRecDepth 100000
/- accounts: keys, parts -/
namespace Go.Proofs
open Go Go.Am
theorem litAddr (a : Addr20) : litCells Try.prog (List.replicate 20 5) (encAddr a) = true := by
  have : ∀ (n : Nat) (l : List UInt8), l.length = n → litCells Try.prog (List.replicate n 5) (l.map fun b => Value.int .u8 b.toNat) = true := by
    intro n
    induction n with
    | zero => intro l h; rw [List.length_eq_zero_iff.1 h]; rfl
    | succ n ih =>
      intro l h
      match l, h with
      | b :: l, h =>
        simp only [List.replicate_succ, List.map_cons, litCells, litCell, Try.underlying5, ih l (by simpa using h), Bool.and_true]
        have := b.toNat_lt
        simp [Lit.wf, IntKind.min, IntKind.max, IntKind.signed, IntKind.bits]; omega
  exact this 20 a.toList (by simp)
theorem litWord (a : Word4) : litCells Try.prog (List.replicate 4 27) (encWord a) = true := by
  have : ∀ (n : Nat) (l : List UInt64), l.length = n → litCells Try.prog (List.replicate n 27) (l.map fun b => Value.int .u64 b.toNat) = true := by
    intro n
    induction n with
    | zero => intro l h; rw [List.length_eq_zero_iff.1 h]; rfl
    | succ n ih =>
      intro l h
      match l, h with
      | b :: l, h =>
        simp only [List.replicate_succ, List.map_cons, litCells, litCell, Try.underlying27, ih l (by simpa using h), Bool.and_true]
        have := b.toNat_lt
        simp [Lit.wf, IntKind.min, IntKind.max, IntKind.signed, IntKind.bits]; omega
  exact this 4 a.toList (by simp)
theorem flatAddr : flat Try.prog 8 26 = some (List.replicate 20 5) := by kernel_rfl
theorem flatPlc : flat Try.prog 8 78 = some (List.replicate 20 5 ++ List.replicate 4 27) := by kernel_rfl
theorem keyedAddr (a : Addr20) : keyed Try.prog 26 (.agg (encAddr a).toArray) = true := by
  unfold keyed
  rw [Try.underlying26]
  simp only [flatAddr]
  exact litAddr a
theorem keyedPlc (p : Plc) : keyed Try.prog 78 (.agg (encPlc p).toArray) = true := by
  unfold keyed
  rw [Try.underlying78]
  simp only [flatPlc]
  show litCells _ _ (encAddr p.addr ++ encWord p.key) = true
  rw [litCells_append (by simp [length_encAddr])]
  exact ⟨litAddr _, litWord _⟩
theorem keyTyAddr : keyTy Try.prog 26 = true := by kernel_rfl
theorem keyTyPlc : keyTy Try.prog 78 = true := by kernel_rfl
attribute [go_sem] keyedAddr keyedPlc
abbrev WA (H : AH) (I : WI) (S : WS) := WAt Try.prog 26 78 H I S
/-- the parts of an account -/
theorem acc_bal (x : Acc) : (encAcc x).toArray.extract 1 5 = (encWord x.bal).toArray := by
  apply Array.ext'
  simp only [Array.toList_extract, List.extract_eq_take_drop, encAcc]
  rw [List.drop_succ_cons, List.drop_zero]
  show List.take 4 (encWord x.bal ++ _) = _
  rw [List.take_append_of_le_length (by simp [length_encWord]), List.take_of_length_le (by simp [length_encWord])]
theorem acc_nonce (x : Acc) : (encAcc x)[0]? = some (.int .u64 x.nonce.toNat) := rfl
theorem acc_code (x : Acc) : (encAcc x)[5]? = some (.string (bs x.code)) := by
  rw [encAcc, List.getElem?_cons_succ, List.getElem?_append_right (by simp [length_encWord]), length_encWord]; rfl
attribute [go_sem] length_encAcc acc_bal acc_nonce acc_code length_encPlc
end Go.Proofs

set_option linter.unusedSimpArgs false
set_option linter.unusedVariables false
set_option maxRecDepth 100000
/- accounts: what is looked at -/
namespace Go.Proofs
open Go Go.Am Go.Am.D
theorem zeroAcc : (Value.agg ⟨[.int .u64 0, .int .u64 0, .int .u64 0, .int .u64 0, .int .u64 0, .string ⟨⟨[]⟩⟩]⟩) = encAccV Acc.zero := by kernel_rfl
theorem lookAcc (a : Addr20) {es : Array MapEntry} {ck : Nat} {f : Addr20 → Option Acc} (m : MFun Try.prog 26 keyAddr encAccV es ck f) :
    lookK false (Value.agg ⟨[.int .u64 0, .int .u64 0, .int .u64 0, .int .u64 0, .int .u64 0, .string ⟨⟨[]⟩⟩]⟩) (.agg (encAddr a).toArray) es.toList = .agg (encAcc ((f a).getD Acc.zero)).toArray := by
  rw [zeroAcc]; exact m.look false Acc.zero a
set_option maxHeartbeats 4000000 in
theorem balance_calls (a : Addr20) {H : AH} {I : WI} {S : WS} (w : WA H I S) :
    ACalls Try.prog 18 #[.pointer (some ⟨I.b, 0, none⟩), .agg (encAddr a).toArray] H (fun v h' => v = .agg (encWord ((S.all a).getD Acc.zero).bal).toArray ∧ h' = H) := by
  refine ACalls.of_ay Try.func18 rfl Try.ntmps18 ⟨_, _, rfl, rfl⟩ ?_; simp only [List.length_cons, List.length_nil, Nat.reduceAdd, Nat.reduceSub, List.replicate_succ, List.replicate_zero, List.cons_append, List.nil_append]
  have hb := at_old w.box
  have hm := at_old w.hAll
  have hl := lookAcc a w.all
  unfold WI.cells at hb
  simp (implicitDefEqProofs := false) (maxSteps := 2000000) only [go_sem, Nat.reduceAdd, Nat.reduceSub, Nat.reduceMul, Nat.reduceLT, Nat.reduceLeDiff, Nat.reduceEqDiff, Nat.reduceBEq, Nat.reduceBNe, Nat.reducePow, Int.reduceBEq, Int.reduceBNe, Int.reduceEq, Int.reduceLT, Int.reduceLE, Int.reduceNeg, Int.reduceToNat, Int.reduceMul, Int.reduceAdd, Int.reduceSub, Int.reducePow, Int.reduceFDiv, reduceCtorEq, reduceIte, hb, hm, length_encAddr, hl]
  refine ⟨by kernel_rfl, by kernel_rfl, .inr ⟨rfl, by decide⟩, ?_⟩
  exact apost_cell rfl (encWord_plain _) ⟨rfl, rfl⟩ _ _ rfl (by simp (implicitDefEqProofs := false) (maxSteps := 2000000) only [go_sem, Nat.reduceAdd, Nat.reduceSub, Nat.reduceMul, Nat.reduceLT, Nat.reduceLeDiff, Nat.reduceEqDiff, Nat.reduceBEq, Nat.reduceBNe, Nat.reducePow, Int.reduceBEq, Int.reduceBNe, Int.reduceEq, Int.reduceLT, Int.reduceLE, Int.reduceNeg, Int.reduceToNat, Int.reduceMul, Int.reduceAdd, Int.reduceSub, Int.reducePow, Int.reduceFDiv, reduceCtorEq, reduceIte, length_encWord])
set_option maxHeartbeats 4000000 in
theorem begin_calls {H : AH} {I : WI} {S : WS} (w : WA H I S) :
    ACalls Try.prog 20 #[.pointer (some ⟨I.b, 0, none⟩)] H (fun v h' => v = undef ∧ ∃ I', WOk Try.prog 26 78 H I h' I' S.begun) := by
  have inh : ∃ (v : Value) (h' : AH), v = undef ∧ ∃ I', WOk Try.prog 26 78 H I h' I' S.begun := by
    obtain ⟨I', h⟩ := begun_at w keyedAddr keyedPlc keyTyAddr keyTyPlc fresh_end fresh_end fresh_end fresh_end
    exact ⟨_, _, rfl, I', h⟩
  refine ACalls.of_aw Try.func20 rfl Try.ntmps20 inh ?_; simp only [List.length_cons, List.length_nil, Nat.reduceAdd, Nat.reduceSub, List.replicate_succ, List.replicate_zero, List.cons_append, List.nil_append]
  have hb := w.box
  unfold WI.cells at hb
  have m1 : D.mkOb Try.prog (.makeMap 68 none) = some (.map 26 #[] 0) := by kernel_rfl
  have m2 : D.mkOb Try.prog (.makeMap 69 none) = some (.map 78 #[] 0) := by kernel_rfl
  have m3 : D.mkOb Try.prog (.makeMap 67 none) = some (.map 78 #[] 0) := by kernel_rfl
  refine D.AWP.drawS H pres_refl (by kernel_rfl) (by kernel_rfl) ?_
  simp (implicitDefEqProofs := false) (maxSteps := 2000000) only [go_sem, Nat.reduceAdd, Nat.reduceSub, Nat.reduceMul, Nat.reduceLT, Nat.reduceLeDiff, Nat.reduceEqDiff, Nat.reduceBEq, Nat.reduceBNe, Nat.reducePow, Int.reduceBEq, Int.reduceBNe, Int.reduceEq, Int.reduceLT, Int.reduceLE, Int.reduceNeg, Int.reduceToNat, Int.reduceMul, Int.reduceAdd, Int.reduceSub, Int.reducePow, Int.reduceFDiv, reduceCtorEq, reduceIte, hb, m1, m2, m3]
  intro b1 f1 b2 f2 b3 f3 b4 f4
  have rr : Am.Rest [] H (hset (hset (hset (hset H b1 (.map 26 #[] 0)) b2 (.map 78 #[] 0)) b3 (.map 78 #[] 0)) b4 (.map 26 #[] 0)) :=
    (((Am.Rest.hset f1).trans (Am.Rest.hset f2) (Gets.refl _ _)).trans (Am.Rest.hset f3) (Gets.refl _ _)).trans (Am.Rest.hset f4) (Gets.refl _ _)
  have hb2 := rr.same _ _ hb rfl (by simp)
  simp (implicitDefEqProofs := false) (maxSteps := 2000000) only [go_sem, Nat.reduceAdd, Nat.reduceSub, Nat.reduceMul, Nat.reduceLT, Nat.reduceLeDiff, Nat.reduceEqDiff, Nat.reduceBEq, Nat.reduceBNe, Nat.reducePow, Int.reduceBEq, Int.reduceBNe, Int.reduceEq, Int.reduceLT, Int.reduceLE, Int.reduceNeg, Int.reduceToNat, Int.reduceMul, Int.reduceAdd, Int.reduceSub, Int.reducePow, Int.reduceFDiv, reduceCtorEq, reduceIte, hb2]
  refine ⟨.inr ⟨rfl, by decide⟩, ?_⟩
  obtain ⟨I', hI⟩ := begun_at w keyedAddr keyedPlc keyTyAddr keyTyPlc f1 f2 f3 f4
  exact ⟨undef, undef, _, rfl, Eases.refl, rfl, I', hI⟩
end Go.Proofs

set_option linter.unusedSimpArgs false
set_option linter.unusedVariables false
set_option maxRecDepth 100000
/- accounts: slots, what is there -/
namespace Go.Proofs
open Go Go.Am
theorem plc_addr (a : Addr20) {z : Value} : blit (Array.replicate 20 z ++ #[.int .u64 0, .int .u64 0, .int .u64 0, .int .u64 0]) 0 (encAddr a) = (encPlc ⟨a, zeroW⟩).toArray := by
  have e := blit_mid (encAddr a) [] (List.replicate 20 z) [.int .u64 0, .int .u64 0, .int .u64 0, .int .u64 0] (by simp [length_encAddr])
  have e2 : (List.replicate 20 z ++ [Value.int .u64 0, .int .u64 0, .int .u64 0, .int .u64 0]).toArray = Array.replicate 20 z ++ #[.int .u64 0, .int .u64 0, .int .u64 0, .int .u64 0] := by
    apply Array.ext'; simp
  simp only [List.nil_append, List.length_nil] at e
  rw [e2] at e
  rw [e]
  have : encWord zeroW = [.int .u64 0, .int .u64 0, .int .u64 0, .int .u64 0] := by kernel_rfl
  simp only [encPlc, this]
theorem plc_key (a : Addr20) (k w : Word4) : blit (encPlc ⟨a, w⟩).toArray 20 (encWord k) = (encPlc ⟨a, k⟩).toArray := by
  have e := blit_mid (encWord k) (encAddr a) (encWord w) [] (by simp [length_encWord])
  simp only [List.append_nil, length_encAddr] at e
  exact e
attribute [go_sem] plc_addr plc_key
theorem lookSlot (p : Plc) {es : Array MapEntry} {ck : Nat} {f : Plc → Option Word4} (m : MFun Try.prog 78 keyPlc encWordV es ck f) :
    lookK false (Value.agg #[.int .u64 0, .int .u64 0, .int .u64 0, .int .u64 0]) (.agg (encPlc p).toArray) es.toList = .agg (encWord ((f p).getD zeroW)).toArray := by
  have : (Value.agg #[.int .u64 0, .int .u64 0, .int .u64 0, .int .u64 0]) = encWordV zeroW := by kernel_rfl
  rw [this]; exact m.look false zeroW p
set_option maxHeartbeats 4000000 in
theorem slot_calls (a : Addr20) (k : Word4) {H : AH} {I : WI} {S : WS} (w : WA H I S) :
    ACalls Try.prog 21 #[.pointer (some ⟨I.b, 0, none⟩), .agg (encAddr a).toArray, .agg (encWord k).toArray] H (fun v h' => v = .agg (encWord ((S.slots ⟨a, k⟩).getD zeroW)).toArray ∧ h' = H) := by
  refine ACalls.of_ay Try.func21 rfl Try.ntmps21 ⟨_, _, rfl, rfl⟩ ?_; simp only [List.length_cons, List.length_nil, Nat.reduceAdd, Nat.reduceSub, List.replicate_succ, List.replicate_zero, List.cons_append, List.nil_append]
  have hb := at_old w.box
  have hm := at_old w.hSlots
  have hl := lookSlot ⟨a, k⟩ w.slots
  unfold WI.cells at hb
  simp (implicitDefEqProofs := false) (maxSteps := 2000000) only [go_sem, Nat.reduceAdd, Nat.reduceSub, Nat.reduceMul, Nat.reduceLT, Nat.reduceLeDiff, Nat.reduceEqDiff, Nat.reduceBEq, Nat.reduceBNe, Nat.reducePow, Int.reduceBEq, Int.reduceBNe, Int.reduceEq, Int.reduceLT, Int.reduceLE, Int.reduceNeg, Int.reduceToNat, Int.reduceMul, Int.reduceAdd, Int.reduceSub, Int.reducePow, Int.reduceFDiv, reduceCtorEq, reduceIte, hb, hm, length_encAddr, length_encWord, hl]
  refine ⟨by kernel_rfl, by kernel_rfl, .inr ⟨rfl, by decide⟩, ?_⟩
  exact apost_cell rfl (encWord_plain _) ⟨rfl, rfl⟩ _ _ rfl (by simp (implicitDefEqProofs := false) (maxSteps := 2000000) only [go_sem, Nat.reduceAdd, Nat.reduceSub, Nat.reduceMul, Nat.reduceLT, Nat.reduceLeDiff, Nat.reduceEqDiff, Nat.reduceBEq, Nat.reduceBNe, Nat.reducePow, Int.reduceBEq, Int.reduceBNe, Int.reduceEq, Int.reduceLT, Int.reduceLE, Int.reduceNeg, Int.reduceToNat, Int.reduceMul, Int.reduceAdd, Int.reduceSub, Int.reducePow, Int.reduceFDiv, reduceCtorEq, reduceIte, length_encWord])
def thereB (x : Acc) : Bool := decide (x.nonce ≠ 0) || (decide (x.bal ≠ zeroW) || !x.code.isEmpty)
set_option maxHeartbeats 4000000 in
theorem there_calls (x : Acc) (h : AH) : ACalls Try.prog 43 #[.agg (encAcc x).toArray] h (fun v h' => v = .bool (thereB x) ∧ h' = h) := by
  refine ACalls.of_ay Try.func43 rfl Try.ntmps43 ⟨_, _, rfl, rfl⟩ ?_; simp only [List.length_cons, List.length_nil, Nat.reduceAdd, Nat.reduceSub, List.replicate_succ, List.replicate_zero, List.cons_append, List.nil_append]
  have hn : (((x.nonce.toNat : Nat) : Int) != 0) = decide (x.nonce ≠ 0) := by
    rw [Bool.eq_iff_iff]
    simp only [bne_iff_ne, ne_eq, decide_eq_true_eq, ← UInt64.toNat_inj]
    show ¬ (((x.nonce.toNat : Nat) : Int)) = 0 ↔ ¬ x.nonce.toNat = 0
    omega
  have hz : #[Value.int .u64 0, .int .u64 0, .int .u64 0, .int .u64 0] = (encWord zeroW).toArray := by kernel_rfl
  cases h1 : decide (x.nonce ≠ 0) with
  | true =>
    have e : thereB x = true := by unfold thereB; rw [h1]; rfl
    rw [h1] at hn
    rw [e]
    simp (implicitDefEqProofs := false) (maxSteps := 2000000) only [go_sem, Nat.reduceAdd, Nat.reduceSub, Nat.reduceMul, Nat.reduceLT, Nat.reduceLeDiff, Nat.reduceEqDiff, Nat.reduceBEq, Nat.reduceBNe, Nat.reducePow, Int.reduceBEq, Int.reduceBNe, Int.reduceEq, Int.reduceLT, Int.reduceLE, Int.reduceNeg, Int.reduceToNat, Int.reduceMul, Int.reduceAdd, Int.reduceSub, Int.reducePow, Int.reduceFDiv, reduceCtorEq, reduceIte, hn]
    exact apost_tmp rfl rfl ⟨rfl, rfl⟩ _ _ rfl
  | false =>
    rw [h1] at hn
    cases h2 : decide (x.bal = zeroW) with
    | true =>
      have e : thereB x = !(x.code == []) := by
        unfold thereB; rw [h1]
        have h3 : x.bal = zeroW := of_decide_eq_true h2
        rw [decide_eq_false (show ¬ x.bal ≠ zeroW from fun h => h h3)]
        cases x.code <;> rfl
      rw [e]
      have hbl : (ByteArray.mk #[]).toList = [] := by kernel_rfl
      simp (implicitDefEqProofs := false) (maxSteps := 2000000) only [go_sem, Nat.reduceAdd, Nat.reduceSub, Nat.reduceMul, Nat.reduceLT, Nat.reduceLeDiff, Nat.reduceEqDiff, Nat.reduceBEq, Nat.reduceBNe, Nat.reducePow, Int.reduceBEq, Int.reduceBNe, Int.reduceEq, Int.reduceLT, Int.reduceLE, Int.reduceNeg, Int.reduceToNat, Int.reduceMul, Int.reduceAdd, Int.reduceSub, Int.reducePow, Int.reduceFDiv, reduceCtorEq, reduceIte, hn, hz, h2, hbl]
      exact apost_tmp (v := .bool (!(x.code == []))) rfl rfl ⟨rfl, rfl⟩ _ _ rfl
    | false =>
      have e : thereB x = true := by
        unfold thereB; rw [h1]
        have h3 : ¬ x.bal = zeroW := of_decide_eq_false h2
        rw [decide_eq_true (show x.bal ≠ zeroW from h3)]; rfl
      rw [e]
      simp (implicitDefEqProofs := false) (maxSteps := 2000000) only [go_sem, Nat.reduceAdd, Nat.reduceSub, Nat.reduceMul, Nat.reduceLT, Nat.reduceLeDiff, Nat.reduceEqDiff, Nat.reduceBEq, Nat.reduceBNe, Nat.reducePow, Int.reduceBEq, Int.reduceBNe, Int.reduceEq, Int.reduceLT, Int.reduceLE, Int.reduceNeg, Int.reduceToNat, Int.reduceMul, Int.reduceAdd, Int.reduceSub, Int.reducePow, Int.reduceFDiv, reduceCtorEq, reduceIte, hn, hz, h2]
      exact apost_tmp rfl rfl ⟨rfl, rfl⟩ _ _ rfl
set_option maxHeartbeats 4000000 in
theorem thereW_calls (a : Addr20) {H : AH} {I : WI} {S : WS} (w : WA H I S) :
    ACalls Try.prog 30 #[.pointer (some ⟨I.b, 0, none⟩), .agg (encAddr a).toArray] H (fun v h' => v = .bool (thereB ((S.all a).getD Acc.zero)) ∧ h' = H) := by
  refine ACalls.of_ay Try.func30 rfl Try.ntmps30 ⟨_, _, rfl, rfl⟩ ?_; simp only [List.length_cons, List.length_nil, Nat.reduceAdd, Nat.reduceSub, List.replicate_succ, List.replicate_zero, List.cons_append, List.nil_append]
  have hb := at_old w.box
  have hm := at_old w.hAll
  have hl := lookAcc a w.all
  unfold WI.cells at hb
  simp (implicitDefEqProofs := false) (maxSteps := 2000000) only [go_sem, Nat.reduceAdd, Nat.reduceSub, Nat.reduceMul, Nat.reduceLT, Nat.reduceLeDiff, Nat.reduceEqDiff, Nat.reduceBEq, Nat.reduceBNe, Nat.reducePow, Int.reduceBEq, Int.reduceBNe, Int.reduceEq, Int.reduceLT, Int.reduceLE, Int.reduceNeg, Int.reduceToNat, Int.reduceMul, Int.reduceAdd, Int.reduceSub, Int.reducePow, Int.reduceFDiv, reduceCtorEq, reduceIte, hb, hm, length_encAddr, hl]
  refine ⟨by kernel_rfl, by kernel_rfl, ?_⟩
  refine dstep_call (there_calls _ _) pres_refl ?_
  simp (implicitDefEqProofs := false) (maxSteps := 2000000) only [go_sem, Nat.reduceAdd, Nat.reduceSub, Nat.reduceMul, Nat.reduceLT, Nat.reduceLeDiff, Nat.reduceEqDiff, Nat.reduceBEq, Nat.reduceBNe, Nat.reducePow, Int.reduceBEq, Int.reduceBNe, Int.reduceEq, Int.reduceLT, Int.reduceLE, Int.reduceNeg, Int.reduceToNat, Int.reduceMul, Int.reduceAdd, Int.reduceSub, Int.reducePow, Int.reduceFDiv, reduceCtorEq, reduceIte]
  exact apost_tmp rfl rfl ⟨rfl, rfl⟩ _ _ rfl
end Go.Proofs

set_option linter.unusedSimpArgs false
set_option linter.unusedVariables false
set_option maxRecDepth 100000
/- accounts: what is changed -/
namespace Go.Proofs
open Go Go.Am
/-- an account is so -/
def WS.put (S : WS) (a : Addr20) (x : Acc) : WS := { S with journal := S.journal ++ [⟨0, ⟨a, zeroW⟩, (S.all a).getD Acc.zero, zeroW, 0⟩], all := fun y => if y = a then some x else S.all y }
set_option maxHeartbeats 4000000 in
theorem set_calls (a : Addr20) (x : Acc) {H : AH} {I : WI} {S : WS} (w : WA H I S) (hj : S.journal.length < 2 ^ 30) :
    ACalls Try.prog 67 #[.pointer (some ⟨I.b, 0, none⟩), .agg (encAddr a).toArray, .agg (encAcc x).toArray] H (fun v h' => v = undef ∧ ∃ I', WOk Try.prog 26 78 H I h' I' (WS.put S a x)) := by
  have hb := at_old w.box
  have hm := at_old w.hAll
  have hl := lookAcc a w.all
  unfold WI.cells at hb
  obtain ⟨s0, hs0⟩ : ∃ s0 : Stp, s0 = { kind := 0, pl := { addr := a, key := zeroW }, was := (S.all a).getD Acc.zero, word := Stp.zero.word, n := Stp.zero.n } := ⟨_, rfl⟩
  have w1 := w.app (t := [.cells (encAddr a).toArray 0 true, .cells (encAcc x).toArray 0 true, .cells (encStp s0).toArray 36 true])
  obtain ⟨r', H', e1, hbox, ok⟩ := w1.step s0 (g := true) (by_ := 160) ⟨by omega, by omega⟩
  obtain ⟨es', ck', hx, ok2⟩ := ok.at_.put_all (mt := 66) Try.mp66 keyedAddr a x
  have fin := (ok.trans ok2).pre
  have nb : ∀ i, H.length ≤ i → i ∉ I.own := fun i hi hm => by
    have := w.holds.below i (by rw [WI.own_lay]; exact hm)
    omega
  have h4 := ok.rest.same H.length (.cells (encAddr a).toArray 0 true) (by simp) rfl (nb _ (Nat.le_refl _))
  have h5 := ok.rest.same (H.length + 1) (.cells (encAcc x).toArray 0 true) (by simp) rfl (nb _ (by omega))
  have hb1 := ok.at_.box
  have hm1 := ok.at_.hAll
  have hx1 := hx hm1
  unfold WI.cells at hbox hb1 h4 h5 hx1 hm1
  simp only [List.length_append, List.length_singleton, keyAddr] at hb1 h4 h5 hx1 hm1
  unfold WI.cells at fin
  simp only [List.length_append, List.length_singleton] at fin
  have inh : ∃ (v : Value) (h' : AH), v = undef ∧ ∃ I', WOk Try.prog 26 78 H I h' I' (WS.put S a x) := ⟨_, _, rfl, _, by rw [hs0] at fin; exact fin⟩
  refine ACalls.of_ay Try.func67 rfl Try.ntmps67 inh ?_; simp only [List.length_cons, List.length_nil, Nat.reduceAdd, Nat.reduceSub, List.replicate_succ, List.replicate_zero, List.cons_append, List.nil_append]
  simp (implicitDefEqProofs := false) (maxSteps := 2000000) only [go_sem, Nat.reduceAdd, Nat.reduceSub, Nat.reduceMul, Nat.reduceLT, Nat.reduceLeDiff, Nat.reduceEqDiff, Nat.reduceBEq, Nat.reduceBNe, Nat.reducePow, Int.reduceBEq, Int.reduceBNe, Int.reduceEq, Int.reduceLT, Int.reduceLE, Int.reduceNeg, Int.reduceToNat, Int.reduceMul, Int.reduceAdd, Int.reduceSub, Int.reducePow, Int.reduceFDiv, reduceCtorEq, reduceIte, hb, hm, length_encAddr, hl, ← hs0, size_zeros, e1, hbox, hb1, h4, h5, hm1, hx1, keyAddr]
  refine ⟨by kernel_rfl, by kernel_rfl, .inr ⟨rfl, by decide⟩, .inr ⟨rfl, by decide⟩, by kernel_rfl, by kernel_rfl, .inr ⟨rfl, by decide⟩, ?_⟩
  rw [hs0] at fin
  exact ⟨undef, undef, _, rfl, Eases.refl, rfl, _, fin⟩
end Go.Proofs

set_option linter.unusedSimpArgs false
set_option linter.unusedVariables false
set_option maxRecDepth 100000
/- accounts: balances -/
namespace Go.Proofs
open Go Go.Am
theorem acc_setBal (x : Acc) (v : Word4) : blit (encAcc x).toArray 1 (encWord v) = (encAcc { x with bal := v }).toArray := by
  have e := blit_mid (encWord v) [.int .u64 x.nonce.toNat] (encWord x.bal) [.string (bs x.code)] (by simp [length_encWord])
  simpa [encAcc] using e
attribute [go_sem] acc_setBal
set_option maxHeartbeats 4000000 in
theorem setBalance_calls (a : Addr20) (v : Word4) {H : AH} {I : WI} {S : WS} (w : WA H I S) (hj : S.journal.length < 2 ^ 30) :
    ACalls Try.prog 47 #[.pointer (some ⟨I.b, 0, none⟩), .agg (encAddr a).toArray, .agg (encWord v).toArray] H (fun u h' => u = undef ∧ ∃ I', WOk Try.prog 26 78 H I h' I' (WS.put S a { (S.all a).getD Acc.zero with bal := v })) := by
  have hb := at_old w.box
  have hm := at_old w.hAll
  have hl := lookAcc a w.all
  unfold WI.cells at hb
  have c := set_calls a { (S.all a).getD Acc.zero with bal := v } w hj
  obtain ⟨u, h', rfl, I', ok⟩ := c.inh
  have inh : ∃ (u : Value) (h' : AH), u = undef ∧ ∃ I', WOk Try.prog 26 78 H I h' I' (WS.put S a { (S.all a).getD Acc.zero with bal := v }) := ⟨_, _, rfl, I', ok⟩
  refine ACalls.of_ay Try.func47 rfl Try.ntmps47 inh ?_; simp only [List.length_cons, List.length_nil, Nat.reduceAdd, Nat.reduceSub, List.replicate_succ, List.replicate_zero, List.cons_append, List.nil_append]
  simp (implicitDefEqProofs := false) (maxSteps := 2000000) only [go_sem, Nat.reduceAdd, Nat.reduceSub, Nat.reduceMul, Nat.reduceLT, Nat.reduceLeDiff, Nat.reduceEqDiff, Nat.reduceBEq, Nat.reduceBNe, Nat.reducePow, Int.reduceBEq, Int.reduceBNe, Int.reduceEq, Int.reduceLT, Int.reduceLE, Int.reduceNeg, Int.reduceToNat, Int.reduceMul, Int.reduceAdd, Int.reduceSub, Int.reducePow, Int.reduceFDiv, reduceCtorEq, reduceIte, hb, hm, length_encAddr, length_encWord, hl]
  refine ⟨by kernel_rfl, by kernel_rfl, ?_⟩
  refine astep_calls (set_calls a { (S.all a).getD Acc.zero with bal := v } w.app hj) ?_
  rintro u h' ⟨hu, I', ok⟩
  simp (implicitDefEqProofs := false) (maxSteps := 2000000) only [go_sem, Nat.reduceAdd, Nat.reduceSub, Nat.reduceMul, Nat.reduceLT, Nat.reduceLeDiff, Nat.reduceEqDiff, Nat.reduceBEq, Nat.reduceBNe, Nat.reducePow, Int.reduceBEq, Int.reduceBNe, Int.reduceEq, Int.reduceLT, Int.reduceLE, Int.reduceNeg, Int.reduceToNat, Int.reduceMul, Int.reduceAdd, Int.reduceSub, Int.reducePow, Int.reduceFDiv, reduceCtorEq, reduceIte, hu]
  exact ⟨undef, undef, _, rfl, Eases.refl, rfl, _, ok.pre⟩
end Go.Proofs

set_option linter.unusedSimpArgs false
set_option linter.unusedVariables false
set_option maxRecDepth 100000
/- accounts: what is touched -/
namespace Go.Proofs
open Go Go.Am
theorem lookInt (a : Addr20) {es : Array MapEntry} {ck : Nat} {f : Addr20 → Option Int} (m : MFun Try.prog 26 keyAddr encIntV es ck f) :
    lookK false (Value.int .i64 0) (.agg (encAddr a).toArray) es.toList = .int .i64 ((f a).getD 0) := m.look false 0 a
/-- an account is touched -/
def WS.touch (S : WS) (a : Addr20) : WS := { S with journal := S.journal ++ [⟨2, ⟨a, zeroW⟩, Acc.zero, zeroW, 0⟩], touched := fun y => if y = a then some 1 else S.touched y }
set_option maxHeartbeats 4000000 in
theorem touch_calls (a : Addr20) {H : AH} {I : WI} {S : WS} (w : WA H I S) (hj : S.journal.length < 2 ^ 30) :
    ACalls Try.prog 22 #[.pointer (some ⟨I.b, 0, none⟩), .agg (encAddr a).toArray] H (fun v h' => v = .bool (decide (0 < (S.touched a).getD 0)) ∧ ∃ I', WOk Try.prog 26 78 H I h' I' (if 0 < (S.touched a).getD 0 then S else WS.touch S a)) := by
  have hb := at_old w.box
  have hm := at_old w.hTouched
  have hl := lookInt a w.touched
  unfold WI.cells at hb
  obtain ⟨s0, hs0⟩ : ∃ s0 : Stp, s0 = { kind := 2, pl := { addr := a, key := zeroW }, was := Stp.zero.was, word := Stp.zero.word, n := Stp.zero.n } := ⟨_, rfl⟩
  have w1 := w.app (t := [.cells (encAddr a).toArray 0 true, .cells (encStp s0).toArray 36 true])
  obtain ⟨r', H', e1, hbox, ok⟩ := w1.step s0 (g := true) (by_ := 160) ⟨by omega, by omega⟩
  obtain ⟨es', ck', hx, ok2⟩ := ok.at_.put_touched (mt := 68) Try.mp68 keyedAddr a 1
  have fin := (ok.trans ok2).pre
  have nb : ∀ i, H.length ≤ i → i ∉ I.own := fun i hi hm => by
    have := w.holds.below i (by rw [WI.own_lay]; exact hm)
    omega
  have h4 := ok.rest.same H.length (.cells (encAddr a).toArray 0 true) (by simp) rfl (nb _ (Nat.le_refl _))
  have hb1 := ok.at_.box
  have hm1 := ok.at_.hTouched
  have hx1 := hx hm1
  unfold WI.cells at hbox hb1 h4 hx1 hm1 fin
  simp only [List.length_append, List.length_singleton, keyAddr] at hb1 h4 hx1 hm1 fin
  by_cases ht : 0 < (S.touched a).getD 0
  · rw [if_pos ht, decide_eq_true ht]
    have inh : ∃ (v : Value) (h' : AH), v = .bool true ∧ ∃ I', WOk Try.prog 26 78 H I h' I' S := ⟨_, _, rfl, _, WOk.refl w⟩
    refine ACalls.of_ay Try.func22 rfl Try.ntmps22 inh ?_; simp only [List.length_cons, List.length_nil, Nat.reduceAdd, Nat.reduceSub, List.replicate_succ, List.replicate_zero, List.cons_append, List.nil_append]
    simp (implicitDefEqProofs := false) (maxSteps := 2000000) only [go_sem, Nat.reduceAdd, Nat.reduceSub, Nat.reduceMul, Nat.reduceLT, Nat.reduceLeDiff, Nat.reduceEqDiff, Nat.reduceBEq, Nat.reduceBNe, Nat.reducePow, Int.reduceBEq, Int.reduceBNe, Int.reduceEq, Int.reduceLT, Int.reduceLE, Int.reduceNeg, Int.reduceToNat, Int.reduceMul, Int.reduceAdd, Int.reduceSub, Int.reducePow, Int.reduceFDiv, reduceCtorEq, reduceIte, hb, hm, length_encAddr, hl, ht]
    refine ⟨by kernel_rfl, by kernel_rfl, ?_⟩
    exact ⟨.bool true, .bool true, _, rfl, Eases.refl, rfl, _, WOk.pre (WOk.refl w.app)⟩
  · rw [if_neg ht, decide_eq_false ht]
    have inh : ∃ (v : Value) (h' : AH), v = .bool false ∧ ∃ I', WOk Try.prog 26 78 H I h' I' (WS.touch S a) := ⟨_, _, rfl, _, by rw [hs0] at fin; exact fin⟩
    refine ACalls.of_ay Try.func22 rfl Try.ntmps22 inh ?_; simp only [List.length_cons, List.length_nil, Nat.reduceAdd, Nat.reduceSub, List.replicate_succ, List.replicate_zero, List.cons_append, List.nil_append]
    simp (implicitDefEqProofs := false) (maxSteps := 2000000) only [go_sem, Nat.reduceAdd, Nat.reduceSub, Nat.reduceMul, Nat.reduceLT, Nat.reduceLeDiff, Nat.reduceEqDiff, Nat.reduceBEq, Nat.reduceBNe, Nat.reducePow, Int.reduceBEq, Int.reduceBNe, Int.reduceEq, Int.reduceLT, Int.reduceLE, Int.reduceNeg, Int.reduceToNat, Int.reduceMul, Int.reduceAdd, Int.reduceSub, Int.reducePow, Int.reduceFDiv, reduceCtorEq, reduceIte, hb, hm, length_encAddr, hl, ht, ← hs0, size_zeros, e1, hbox, hb1, h4, hm1, hx1, keyAddr]
    refine ⟨by kernel_rfl, by kernel_rfl, by kernel_rfl, by kernel_rfl, .inr ⟨rfl, by decide⟩, .inr ⟨rfl, by decide⟩, by kernel_rfl, by kernel_rfl, .inr ⟨rfl, by decide⟩, ?_⟩
    rw [hs0] at fin
    exact ⟨.bool false, .bool false, _, rfl, Eases.refl, rfl, _, fin⟩
end Go.Proofs

set_option linter.unusedSimpArgs false
set_option linter.unusedVariables false
set_option maxRecDepth 100000
/- accounts: slots, touched and changed -/
namespace Go.Proofs
open Go Go.Am
theorem lookIntP (p : Plc) {es : Array MapEntry} {ck : Nat} {f : Plc → Option Int} (m : MFun Try.prog 78 keyPlc encIntV es ck f) :
    lookK false (Value.int .i64 0) (.agg (encPlc p).toArray) es.toList = .int .i64 ((f p).getD 0) := m.look false 0 p
/-- a slot is touched -/
def WS.touchSlot (S : WS) (p : Plc) : WS := { S with journal := S.journal ++ [⟨3, p, Acc.zero, zeroW, 0⟩], looked := fun y => if y = p then some 1 else S.looked y }
set_option maxHeartbeats 4000000 in
theorem touchSlot_calls (a : Addr20) (k : Word4) {H : AH} {I : WI} {S : WS} (w : WA H I S) (hj : S.journal.length < 2 ^ 30) :
    ACalls Try.prog 23 #[.pointer (some ⟨I.b, 0, none⟩), .agg (encAddr a).toArray, .agg (encWord k).toArray] H (fun v h' => v = .bool (decide (0 < (S.looked ⟨a, k⟩).getD 0)) ∧ ∃ I', WOk Try.prog 26 78 H I h' I' (if 0 < (S.looked ⟨a, k⟩).getD 0 then S else WS.touchSlot S ⟨a, k⟩)) := by
  have hb := at_old w.box
  have hm := at_old w.hLooked
  have hl := lookIntP ⟨a, k⟩ w.looked
  unfold WI.cells at hb
  obtain ⟨s0, hs0⟩ : ∃ s0 : Stp, s0 = { kind := 3, pl := { addr := a, key := k }, was := Stp.zero.was, word := Stp.zero.word, n := Stp.zero.n } := ⟨_, rfl⟩
  have w1 := w.app (t := [.cells (encAddr a).toArray 0 true, .cells (encWord k).toArray 0 true, .cells (encPlc ⟨a, k⟩).toArray 0 true, .cells (encStp s0).toArray 36 true])
  obtain ⟨r', H', e1, hbox, ok⟩ := w1.step s0 (g := true) (by_ := 160) ⟨by omega, by omega⟩
  obtain ⟨es', ck', hx, ok2⟩ := ok.at_.put_looked (mt := 69) Try.mp69 keyedPlc ⟨a, k⟩ 1
  have fin := (ok.trans ok2).pre
  have nb : ∀ i, H.length ≤ i → i ∉ I.own := fun i hi hm => by
    have := w.holds.below i (by rw [WI.own_lay]; exact hm)
    omega
  have h4 := ok.rest.same (H.length + 2) (.cells (encPlc ⟨a, k⟩).toArray 0 true) (by simp) rfl (nb _ (by omega))
  have hb1 := ok.at_.box
  have hm1 := ok.at_.hLooked
  have hx1 := hx hm1
  unfold WI.cells at hbox hb1 h4 hx1 hm1 fin
  simp only [List.length_append, List.length_singleton, keyPlc] at hb1 h4 hx1 hm1 fin
  by_cases ht : 0 < (S.looked ⟨a, k⟩).getD 0
  · rw [if_pos ht, decide_eq_true ht]
    have inh : ∃ (v : Value) (h' : AH), v = .bool true ∧ ∃ I', WOk Try.prog 26 78 H I h' I' S := ⟨_, _, rfl, _, WOk.refl w⟩
    refine ACalls.of_ay Try.func23 rfl Try.ntmps23 inh ?_; simp only [List.length_cons, List.length_nil, Nat.reduceAdd, Nat.reduceSub, List.replicate_succ, List.replicate_zero, List.cons_append, List.nil_append]
    simp (implicitDefEqProofs := false) (maxSteps := 2000000) only [go_sem, Nat.reduceAdd, Nat.reduceSub, Nat.reduceMul, Nat.reduceLT, Nat.reduceLeDiff, Nat.reduceEqDiff, Nat.reduceBEq, Nat.reduceBNe, Nat.reducePow, Int.reduceBEq, Int.reduceBNe, Int.reduceEq, Int.reduceLT, Int.reduceLE, Int.reduceNeg, Int.reduceToNat, Int.reduceMul, Int.reduceAdd, Int.reduceSub, Int.reducePow, Int.reduceFDiv, reduceCtorEq, reduceIte, hb, hm, length_encAddr, length_encWord, hl, ht]
    refine ⟨by kernel_rfl, by kernel_rfl, ?_⟩
    exact ⟨.bool true, .bool true, _, rfl, Eases.refl, rfl, _, WOk.pre (WOk.refl w.app)⟩
  · rw [if_neg ht, decide_eq_false ht]
    have inh : ∃ (v : Value) (h' : AH), v = .bool false ∧ ∃ I', WOk Try.prog 26 78 H I h' I' (WS.touchSlot S ⟨a, k⟩) := ⟨_, _, rfl, _, by rw [hs0] at fin; exact fin⟩
    refine ACalls.of_ay Try.func23 rfl Try.ntmps23 inh ?_; simp only [List.length_cons, List.length_nil, Nat.reduceAdd, Nat.reduceSub, List.replicate_succ, List.replicate_zero, List.cons_append, List.nil_append]
    simp (implicitDefEqProofs := false) (maxSteps := 2000000) only [go_sem, Nat.reduceAdd, Nat.reduceSub, Nat.reduceMul, Nat.reduceLT, Nat.reduceLeDiff, Nat.reduceEqDiff, Nat.reduceBEq, Nat.reduceBNe, Nat.reducePow, Int.reduceBEq, Int.reduceBNe, Int.reduceEq, Int.reduceLT, Int.reduceLE, Int.reduceNeg, Int.reduceToNat, Int.reduceMul, Int.reduceAdd, Int.reduceSub, Int.reducePow, Int.reduceFDiv, reduceCtorEq, reduceIte, hb, hm, length_encAddr, length_encWord, hl, ht, ← hs0, size_zeros, e1, hbox, hb1, h4, hm1, hx1, keyPlc]
    refine ⟨by kernel_rfl, by kernel_rfl, by kernel_rfl, by kernel_rfl, .inr ⟨rfl, by decide⟩, .inr ⟨rfl, by decide⟩, by kernel_rfl, by kernel_rfl, .inr ⟨rfl, by decide⟩, ?_⟩
    rw [hs0] at fin
    exact ⟨.bool false, .bool false, _, rfl, Eases.refl, rfl, _, fin⟩
end Go.Proofs

set_option linter.unusedSimpArgs false
set_option linter.unusedVariables false
set_option maxRecDepth 100000
/- accounts: slots as they were; marks -/
namespace Go.Proofs
open Go Go.Am
theorem zeroWV : (#[Value.int .u64 0, .int .u64 0, .int .u64 0, .int .u64 0]) = (encWord zeroW).toArray := by kernel_rfl
theorem lookSlotOk (p : Plc) {es : Array MapEntry} {ck : Nat} {f : Plc → Option Word4} (m : MFun Try.prog 78 keyPlc encWordV es ck f) :
    lookK true (Value.agg #[.int .u64 0, .int .u64 0, .int .u64 0, .int .u64 0]) (.agg (encPlc p).toArray) es.toList = .tuple #[.agg (encWord ((f p).getD zeroW)).toArray, .bool (f p).isSome] := by
  rw [zeroWV]; exact m.look true zeroW p
/-- a slot as it was -/
def WS.was (S : WS) (p : Plc) : Word4 := match S.orig p with | some v => v | none => (S.slots p).getD zeroW
set_option maxHeartbeats 4000000 in
theorem original_calls (a : Addr20) (k : Word4) {H : AH} {I : WI} {S : WS} (w : WA H I S) :
    ACalls Try.prog 25 #[.pointer (some ⟨I.b, 0, none⟩), .agg (encAddr a).toArray, .agg (encWord k).toArray] H (fun v h' => v = .agg (encWord (WS.was S ⟨a, k⟩)).toArray ∧ h' = H) := by
  have hb := at_old w.box
  have hm := at_old w.hOrig
  have hl := lookSlotOk ⟨a, k⟩ w.orig
  unfold WI.cells at hb
  cases ho : S.orig ⟨a, k⟩ with
  | some v =>
    have e : WS.was S ⟨a, k⟩ = v := by unfold WS.was; rw [ho]
    rw [ho] at hl
    simp only [Option.getD_some, Option.isSome_some] at hl
    rw [e]
    refine ACalls.of_ay Try.func25 rfl Try.ntmps25 ⟨_, _, rfl, rfl⟩ ?_; simp only [List.length_cons, List.length_nil, Nat.reduceAdd, Nat.reduceSub, List.replicate_succ, List.replicate_zero, List.cons_append, List.nil_append]
    simp (implicitDefEqProofs := false) (maxSteps := 2000000) only [go_sem, Nat.reduceAdd, Nat.reduceSub, Nat.reduceMul, Nat.reduceLT, Nat.reduceLeDiff, Nat.reduceEqDiff, Nat.reduceBEq, Nat.reduceBNe, Nat.reducePow, Int.reduceBEq, Int.reduceBNe, Int.reduceEq, Int.reduceLT, Int.reduceLE, Int.reduceNeg, Int.reduceToNat, Int.reduceMul, Int.reduceAdd, Int.reduceSub, Int.reducePow, Int.reduceFDiv, reduceCtorEq, reduceIte, hb, hm, length_encAddr, length_encWord, hl]
    refine ⟨by kernel_rfl, by kernel_rfl, ?_⟩
    exact apost_cell rfl (encWord_plain _) ⟨rfl, rfl⟩ _ _ rfl (by simp (implicitDefEqProofs := false) (maxSteps := 2000000) only [go_sem, Nat.reduceAdd, Nat.reduceSub, Nat.reduceMul, Nat.reduceLT, Nat.reduceLeDiff, Nat.reduceEqDiff, Nat.reduceBEq, Nat.reduceBNe, Nat.reducePow, Int.reduceBEq, Int.reduceBNe, Int.reduceEq, Int.reduceLT, Int.reduceLE, Int.reduceNeg, Int.reduceToNat, Int.reduceMul, Int.reduceAdd, Int.reduceSub, Int.reducePow, Int.reduceFDiv, reduceCtorEq, reduceIte, length_encWord])
  | none =>
    have e : WS.was S ⟨a, k⟩ = (S.slots ⟨a, k⟩).getD zeroW := by unfold WS.was; rw [ho]
    rw [ho] at hl
    simp only [Option.getD_none, Option.isSome_none] at hl
    rw [e]
    refine ACalls.of_ay Try.func25 rfl Try.ntmps25 ⟨_, _, rfl, rfl⟩ ?_; simp only [List.length_cons, List.length_nil, Nat.reduceAdd, Nat.reduceSub, List.replicate_succ, List.replicate_zero, List.cons_append, List.nil_append]
    simp (implicitDefEqProofs := false) (maxSteps := 2000000) only [go_sem, Nat.reduceAdd, Nat.reduceSub, Nat.reduceMul, Nat.reduceLT, Nat.reduceLeDiff, Nat.reduceEqDiff, Nat.reduceBEq, Nat.reduceBNe, Nat.reducePow, Int.reduceBEq, Int.reduceBNe, Int.reduceEq, Int.reduceLT, Int.reduceLE, Int.reduceNeg, Int.reduceToNat, Int.reduceMul, Int.reduceAdd, Int.reduceSub, Int.reducePow, Int.reduceFDiv, reduceCtorEq, reduceIte, hb, hm, length_encAddr, length_encWord, hl]
    refine ⟨by kernel_rfl, by kernel_rfl, ?_⟩
    refine astep_call (slot_calls a k w.app) ?_
    simp (implicitDefEqProofs := false) (maxSteps := 2000000) only [go_sem, Nat.reduceAdd, Nat.reduceSub, Nat.reduceMul, Nat.reduceLT, Nat.reduceLeDiff, Nat.reduceEqDiff, Nat.reduceBEq, Nat.reduceBNe, Nat.reducePow, Int.reduceBEq, Int.reduceBNe, Int.reduceEq, Int.reduceLT, Int.reduceLE, Int.reduceNeg, Int.reduceToNat, Int.reduceMul, Int.reduceAdd, Int.reduceSub, Int.reducePow, Int.reduceFDiv, reduceCtorEq, reduceIte, length_encWord]
    exact apost_cell rfl (encWord_plain _) ⟨rfl, rfl⟩ _ _ rfl (by simp (implicitDefEqProofs := false) (maxSteps := 2000000) only [go_sem, Nat.reduceAdd, Nat.reduceSub, Nat.reduceMul, Nat.reduceLT, Nat.reduceLeDiff, Nat.reduceEqDiff, Nat.reduceBEq, Nat.reduceBNe, Nat.reducePow, Int.reduceBEq, Int.reduceBNe, Int.reduceEq, Int.reduceLT, Int.reduceLE, Int.reduceNeg, Int.reduceToNat, Int.reduceMul, Int.reduceAdd, Int.reduceSub, Int.reducePow, Int.reduceFDiv, reduceCtorEq, reduceIte, length_encWord])
end Go.Proofs

