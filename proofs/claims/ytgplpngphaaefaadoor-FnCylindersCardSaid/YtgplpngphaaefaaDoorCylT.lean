/- CylT: the numbers that FnCylinders speaks of, reckoned by the kernel; plain. -/
import Derived.Test.YtgplpngphaaefaaDoorCountC
import Derived.Test.YtgplpngphaaefaaDoorCyl0
import Derived.Test.YtgplpngphaaefaaDoorLog
namespace Go.Proofs.YtgplpngphaaefaaDoor
open Go.RowKit

theorem tm1 : transM 1 = [[0, 1], [1, 0]] := by decide +kernel
theorem pw1_1 : powM (transM 1) 2 0 = [[0, 1], [1, 0]] := tm1
theorem cv1_1 : cylV 1 1 = 0 := by unfold cylV; rw [show (1 - 1 : Nat) = 0 from rfl, show (2 ^ 1 : Nat) = 2 from rfl, pw1_1]; decide +kernel
theorem pw1_2 : powM (transM 1) 2 1 = [[1, 0], [0, 1]] := by rw [powM, pw1_1, tm1]; decide +kernel
theorem cv1_2 : cylV 1 2 = 2 := by unfold cylV; rw [show (2 - 1 : Nat) = 1 from rfl, show (2 ^ 1 : Nat) = 2 from rfl, pw1_2]; decide +kernel
theorem pw1_3 : powM (transM 1) 2 2 = [[0, 1], [1, 0]] := by rw [powM, pw1_2, tm1]; decide +kernel
theorem cv1_3 : cylV 1 3 = 0 := by unfold cylV; rw [show (3 - 1 : Nat) = 2 from rfl, show (2 ^ 1 : Nat) = 2 from rfl, pw1_3]; decide +kernel
theorem pw1_4 : powM (transM 1) 2 3 = [[1, 0], [0, 1]] := by rw [powM, pw1_3, tm1]; decide +kernel
theorem cv1_4 : cylV 1 4 = 2 := by unfold cylV; rw [show (4 - 1 : Nat) = 3 from rfl, show (2 ^ 1 : Nat) = 2 from rfl, pw1_4]; decide +kernel
theorem pw1_5 : powM (transM 1) 2 4 = [[0, 1], [1, 0]] := by rw [powM, pw1_4, tm1]; decide +kernel
theorem cv1_5 : cylV 1 5 = 0 := by unfold cylV; rw [show (5 - 1 : Nat) = 4 from rfl, show (2 ^ 1 : Nat) = 2 from rfl, pw1_5]; decide +kernel
theorem pw1_6 : powM (transM 1) 2 5 = [[1, 0], [0, 1]] := by rw [powM, pw1_5, tm1]; decide +kernel
theorem cv1_6 : cylV 1 6 = 2 := by unfold cylV; rw [show (6 - 1 : Nat) = 5 from rfl, show (2 ^ 1 : Nat) = 2 from rfl, pw1_6]; decide +kernel
theorem pw1_7 : powM (transM 1) 2 6 = [[0, 1], [1, 0]] := by rw [powM, pw1_6, tm1]; decide +kernel
theorem cv1_7 : cylV 1 7 = 0 := by unfold cylV; rw [show (7 - 1 : Nat) = 6 from rfl, show (2 ^ 1 : Nat) = 2 from rfl, pw1_7]; decide +kernel
theorem pw1_8 : powM (transM 1) 2 7 = [[1, 0], [0, 1]] := by rw [powM, pw1_7, tm1]; decide +kernel
theorem cv1_8 : cylV 1 8 = 2 := by unfold cylV; rw [show (8 - 1 : Nat) = 7 from rfl, show (2 ^ 1 : Nat) = 2 from rfl, pw1_8]; decide +kernel
theorem pw1_9 : powM (transM 1) 2 8 = [[0, 1], [1, 0]] := by rw [powM, pw1_8, tm1]; decide +kernel
theorem cv1_9 : cylV 1 9 = 0 := by unfold cylV; rw [show (9 - 1 : Nat) = 8 from rfl, show (2 ^ 1 : Nat) = 2 from rfl, pw1_9]; decide +kernel
theorem pw1_10 : powM (transM 1) 2 9 = [[1, 0], [0, 1]] := by rw [powM, pw1_9, tm1]; decide +kernel
theorem cv1_10 : cylV 1 10 = 2 := by unfold cylV; rw [show (10 - 1 : Nat) = 9 from rfl, show (2 ^ 1 : Nat) = 2 from rfl, pw1_10]; decide +kernel
theorem pw1_11 : powM (transM 1) 2 10 = [[0, 1], [1, 0]] := by rw [powM, pw1_10, tm1]; decide +kernel
theorem cv1_11 : cylV 1 11 = 0 := by unfold cylV; rw [show (11 - 1 : Nat) = 10 from rfl, show (2 ^ 1 : Nat) = 2 from rfl, pw1_11]; decide +kernel
theorem pw1_12 : powM (transM 1) 2 11 = [[1, 0], [0, 1]] := by rw [powM, pw1_11, tm1]; decide +kernel
theorem cv1_12 : cylV 1 12 = 2 := by unfold cylV; rw [show (12 - 1 : Nat) = 11 from rfl, show (2 ^ 1 : Nat) = 2 from rfl, pw1_12]; decide +kernel
theorem tm2 : transM 2 = [[1, 0, 0, 1], [0, 0, 1, 0], [0, 1, 0, 0], [1, 0, 0, 0]] := by decide +kernel
theorem pw2_1 : powM (transM 2) 4 0 = [[1, 0, 0, 1], [0, 0, 1, 0], [0, 1, 0, 0], [1, 0, 0, 0]] := tm2
theorem cv2_1 : cylV 2 1 = 1 := by unfold cylV; rw [show (1 - 1 : Nat) = 0 from rfl, show (2 ^ 2 : Nat) = 4 from rfl, pw2_1]; decide +kernel
theorem pw2_2 : powM (transM 2) 4 1 = [[2, 0, 0, 1], [0, 1, 0, 0], [0, 0, 1, 0], [1, 0, 0, 1]] := by rw [powM, pw2_1, tm2]; decide +kernel
theorem cv2_2 : cylV 2 2 = 5 := by unfold cylV; rw [show (2 - 1 : Nat) = 1 from rfl, show (2 ^ 2 : Nat) = 4 from rfl, pw2_2]; decide +kernel
theorem pw2_3 : powM (transM 2) 4 2 = [[3, 0, 0, 2], [0, 0, 1, 0], [0, 1, 0, 0], [2, 0, 0, 1]] := by rw [powM, pw2_2, tm2]; decide +kernel
theorem cv2_3 : cylV 2 3 = 4 := by unfold cylV; rw [show (3 - 1 : Nat) = 2 from rfl, show (2 ^ 2 : Nat) = 4 from rfl, pw2_3]; decide +kernel
theorem pw2_4 : powM (transM 2) 4 3 = [[5, 0, 0, 3], [0, 1, 0, 0], [0, 0, 1, 0], [3, 0, 0, 2]] := by rw [powM, pw2_3, tm2]; decide +kernel
theorem cv2_4 : cylV 2 4 = 9 := by unfold cylV; rw [show (4 - 1 : Nat) = 3 from rfl, show (2 ^ 2 : Nat) = 4 from rfl, pw2_4]; decide +kernel
theorem pw2_5 : powM (transM 2) 4 4 = [[8, 0, 0, 5], [0, 0, 1, 0], [0, 1, 0, 0], [5, 0, 0, 3]] := by rw [powM, pw2_4, tm2]; decide +kernel
theorem cv2_5 : cylV 2 5 = 11 := by unfold cylV; rw [show (5 - 1 : Nat) = 4 from rfl, show (2 ^ 2 : Nat) = 4 from rfl, pw2_5]; decide +kernel
theorem pw2_6 : powM (transM 2) 4 5 = [[13, 0, 0, 8], [0, 1, 0, 0], [0, 0, 1, 0], [8, 0, 0, 5]] := by rw [powM, pw2_5, tm2]; decide +kernel
theorem cv2_6 : cylV 2 6 = 20 := by unfold cylV; rw [show (6 - 1 : Nat) = 5 from rfl, show (2 ^ 2 : Nat) = 4 from rfl, pw2_6]; decide +kernel
theorem pw2_7 : powM (transM 2) 4 6 = [[21, 0, 0, 13], [0, 0, 1, 0], [0, 1, 0, 0], [13, 0, 0, 8]] := by rw [powM, pw2_6, tm2]; decide +kernel
theorem cv2_7 : cylV 2 7 = 29 := by unfold cylV; rw [show (7 - 1 : Nat) = 6 from rfl, show (2 ^ 2 : Nat) = 4 from rfl, pw2_7]; decide +kernel
theorem pw2_8 : powM (transM 2) 4 7 = [[34, 0, 0, 21], [0, 1, 0, 0], [0, 0, 1, 0], [21, 0, 0, 13]] := by rw [powM, pw2_7, tm2]; decide +kernel
theorem cv2_8 : cylV 2 8 = 49 := by unfold cylV; rw [show (8 - 1 : Nat) = 7 from rfl, show (2 ^ 2 : Nat) = 4 from rfl, pw2_8]; decide +kernel
theorem pw2_9 : powM (transM 2) 4 8 = [[55, 0, 0, 34], [0, 0, 1, 0], [0, 1, 0, 0], [34, 0, 0, 21]] := by rw [powM, pw2_8, tm2]; decide +kernel
theorem cv2_9 : cylV 2 9 = 76 := by unfold cylV; rw [show (9 - 1 : Nat) = 8 from rfl, show (2 ^ 2 : Nat) = 4 from rfl, pw2_9]; decide +kernel
theorem pw2_10 : powM (transM 2) 4 9 = [[89, 0, 0, 55], [0, 1, 0, 0], [0, 0, 1, 0], [55, 0, 0, 34]] := by rw [powM, pw2_9, tm2]; decide +kernel
theorem cv2_10 : cylV 2 10 = 125 := by unfold cylV; rw [show (10 - 1 : Nat) = 9 from rfl, show (2 ^ 2 : Nat) = 4 from rfl, pw2_10]; decide +kernel
theorem pw2_11 : powM (transM 2) 4 10 = [[144, 0, 0, 89], [0, 0, 1, 0], [0, 1, 0, 0], [89, 0, 0, 55]] := by rw [powM, pw2_10, tm2]; decide +kernel
theorem cv2_11 : cylV 2 11 = 199 := by unfold cylV; rw [show (11 - 1 : Nat) = 10 from rfl, show (2 ^ 2 : Nat) = 4 from rfl, pw2_11]; decide +kernel
theorem pw2_12 : powM (transM 2) 4 11 = [[233, 0, 0, 144], [0, 1, 0, 0], [0, 0, 1, 0], [144, 0, 0, 89]] := by rw [powM, pw2_11, tm2]; decide +kernel
theorem cv2_12 : cylV 2 12 = 324 := by unfold cylV; rw [show (12 - 1 : Nat) = 11 from rfl, show (2 ^ 2 : Nat) = 4 from rfl, pw2_12]; decide +kernel
theorem tm3 : transM 3 = [[0, 1, 0, 0, 1, 0, 0, 1], [1, 0, 0, 0, 0, 0, 1, 0], [0, 0, 0, 0, 0, 1, 0, 0], [0, 0, 0, 0, 1, 0, 0, 0], [1, 0, 0, 1, 0, 0, 0, 0], [0, 0, 1, 0, 0, 0, 0, 0], [0, 1, 0, 0, 0, 0, 0, 0], [1, 0, 0, 0, 0, 0, 0, 0]] := by decide +kernel
theorem pw3_1 : powM (transM 3) 8 0 = [[0, 1, 0, 0, 1, 0, 0, 1], [1, 0, 0, 0, 0, 0, 1, 0], [0, 0, 0, 0, 0, 1, 0, 0], [0, 0, 0, 0, 1, 0, 0, 0], [1, 0, 0, 1, 0, 0, 0, 0], [0, 0, 1, 0, 0, 0, 0, 0], [0, 1, 0, 0, 0, 0, 0, 0], [1, 0, 0, 0, 0, 0, 0, 0]] := tm3
theorem cv3_1 : cylV 3 1 = 0 := by unfold cylV; rw [show (1 - 1 : Nat) = 0 from rfl, show (2 ^ 3 : Nat) = 8 from rfl, pw3_1]; decide +kernel
theorem pw3_2 : powM (transM 3) 8 1 = [[3, 0, 0, 1, 0, 0, 1, 0], [0, 2, 0, 0, 1, 0, 0, 1], [0, 0, 1, 0, 0, 0, 0, 0], [1, 0, 0, 1, 0, 0, 0, 0], [0, 1, 0, 0, 2, 0, 0, 1], [0, 0, 0, 0, 0, 1, 0, 0], [1, 0, 0, 0, 0, 0, 1, 0], [0, 1, 0, 0, 1, 0, 0, 1]] := by rw [powM, pw3_1, tm3]; decide +kernel
theorem cv3_2 : cylV 3 2 = 12 := by unfold cylV; rw [show (2 - 1 : Nat) = 1 from rfl, show (2 ^ 3 : Nat) = 8 from rfl, pw3_2]; decide +kernel
theorem pw3_3 : powM (transM 3) 8 2 = [[0, 4, 0, 0, 4, 0, 0, 3], [4, 0, 0, 1, 0, 0, 2, 0], [0, 0, 0, 0, 0, 1, 0, 0], [0, 1, 0, 0, 2, 0, 0, 1], [4, 0, 0, 2, 0, 0, 1, 0], [0, 0, 1, 0, 0, 0, 0, 0], [0, 2, 0, 0, 1, 0, 0, 1], [3, 0, 0, 1, 0, 0, 1, 0]] := by rw [powM, pw3_2, tm3]; decide +kernel
theorem cv3_3 : cylV 3 3 = 0 := by unfold cylV; rw [show (3 - 1 : Nat) = 2 from rfl, show (2 ^ 3 : Nat) = 8 from rfl, pw3_3]; decide +kernel
theorem pw3_4 : powM (transM 3) 8 3 = [[11, 0, 0, 4, 0, 0, 4, 0], [0, 6, 0, 0, 5, 0, 0, 4], [0, 0, 1, 0, 0, 0, 0, 0], [4, 0, 0, 2, 0, 0, 1, 0], [0, 5, 0, 0, 6, 0, 0, 4], [0, 0, 0, 0, 0, 1, 0, 0], [4, 0, 0, 1, 0, 0, 2, 0], [0, 4, 0, 0, 4, 0, 0, 3]] := by rw [powM, pw3_3, tm3]; decide +kernel
theorem cv3_4 : cylV 3 4 = 32 := by unfold cylV; rw [show (4 - 1 : Nat) = 3 from rfl, show (2 ^ 3 : Nat) = 8 from rfl, pw3_4]; decide +kernel
theorem pw3_5 : powM (transM 3) 8 4 = [[0, 15, 0, 0, 15, 0, 0, 11], [15, 0, 0, 5, 0, 0, 6, 0], [0, 0, 0, 0, 0, 1, 0, 0], [0, 5, 0, 0, 6, 0, 0, 4], [15, 0, 0, 6, 0, 0, 5, 0], [0, 0, 1, 0, 0, 0, 0, 0], [0, 6, 0, 0, 5, 0, 0, 4], [11, 0, 0, 4, 0, 0, 4, 0]] := by rw [powM, pw3_4, tm3]; decide +kernel
theorem cv3_5 : cylV 3 5 = 0 := by unfold cylV; rw [show (5 - 1 : Nat) = 4 from rfl, show (2 ^ 3 : Nat) = 8 from rfl, pw3_5]; decide +kernel
theorem pw3_6 : powM (transM 3) 8 5 = [[41, 0, 0, 15, 0, 0, 15, 0], [0, 21, 0, 0, 20, 0, 0, 15], [0, 0, 1, 0, 0, 0, 0, 0], [15, 0, 0, 6, 0, 0, 5, 0], [0, 20, 0, 0, 21, 0, 0, 15], [0, 0, 0, 0, 0, 1, 0, 0], [15, 0, 0, 5, 0, 0, 6, 0], [0, 15, 0, 0, 15, 0, 0, 11]] := by rw [powM, pw3_5, tm3]; decide +kernel
theorem cv3_6 : cylV 3 6 = 108 := by unfold cylV; rw [show (6 - 1 : Nat) = 5 from rfl, show (2 ^ 3 : Nat) = 8 from rfl, pw3_6]; decide +kernel
theorem pw3_7 : powM (transM 3) 8 6 = [[0, 56, 0, 0, 56, 0, 0, 41], [56, 0, 0, 20, 0, 0, 21, 0], [0, 0, 0, 0, 0, 1, 0, 0], [0, 20, 0, 0, 21, 0, 0, 15], [56, 0, 0, 21, 0, 0, 20, 0], [0, 0, 1, 0, 0, 0, 0, 0], [0, 21, 0, 0, 20, 0, 0, 15], [41, 0, 0, 15, 0, 0, 15, 0]] := by rw [powM, pw3_6, tm3]; decide +kernel
theorem cv3_7 : cylV 3 7 = 0 := by unfold cylV; rw [show (7 - 1 : Nat) = 6 from rfl, show (2 ^ 3 : Nat) = 8 from rfl, pw3_7]; decide +kernel
theorem pw3_8 : powM (transM 3) 8 7 = [[153, 0, 0, 56, 0, 0, 56, 0], [0, 77, 0, 0, 76, 0, 0, 56], [0, 0, 1, 0, 0, 0, 0, 0], [56, 0, 0, 21, 0, 0, 20, 0], [0, 76, 0, 0, 77, 0, 0, 56], [0, 0, 0, 0, 0, 1, 0, 0], [56, 0, 0, 20, 0, 0, 21, 0], [0, 56, 0, 0, 56, 0, 0, 41]] := by rw [powM, pw3_7, tm3]; decide +kernel
theorem cv3_8 : cylV 3 8 = 392 := by unfold cylV; rw [show (8 - 1 : Nat) = 7 from rfl, show (2 ^ 3 : Nat) = 8 from rfl, pw3_8]; decide +kernel
theorem pw3_9 : powM (transM 3) 8 8 = [[0, 209, 0, 0, 209, 0, 0, 153], [209, 0, 0, 76, 0, 0, 77, 0], [0, 0, 0, 0, 0, 1, 0, 0], [0, 76, 0, 0, 77, 0, 0, 56], [209, 0, 0, 77, 0, 0, 76, 0], [0, 0, 1, 0, 0, 0, 0, 0], [0, 77, 0, 0, 76, 0, 0, 56], [153, 0, 0, 56, 0, 0, 56, 0]] := by rw [powM, pw3_8, tm3]; decide +kernel
theorem cv3_9 : cylV 3 9 = 0 := by unfold cylV; rw [show (9 - 1 : Nat) = 8 from rfl, show (2 ^ 3 : Nat) = 8 from rfl, pw3_9]; decide +kernel
theorem pw3_10 : powM (transM 3) 8 9 = [[571, 0, 0, 209, 0, 0, 209, 0], [0, 286, 0, 0, 285, 0, 0, 209], [0, 0, 1, 0, 0, 0, 0, 0], [209, 0, 0, 77, 0, 0, 76, 0], [0, 285, 0, 0, 286, 0, 0, 209], [0, 0, 0, 0, 0, 1, 0, 0], [209, 0, 0, 76, 0, 0, 77, 0], [0, 209, 0, 0, 209, 0, 0, 153]] := by rw [powM, pw3_9, tm3]; decide +kernel
theorem cv3_10 : cylV 3 10 = 1452 := by unfold cylV; rw [show (10 - 1 : Nat) = 9 from rfl, show (2 ^ 3 : Nat) = 8 from rfl, pw3_10]; decide +kernel
theorem pw3_11 : powM (transM 3) 8 10 = [[0, 780, 0, 0, 780, 0, 0, 571], [780, 0, 0, 285, 0, 0, 286, 0], [0, 0, 0, 0, 0, 1, 0, 0], [0, 285, 0, 0, 286, 0, 0, 209], [780, 0, 0, 286, 0, 0, 285, 0], [0, 0, 1, 0, 0, 0, 0, 0], [0, 286, 0, 0, 285, 0, 0, 209], [571, 0, 0, 209, 0, 0, 209, 0]] := by rw [powM, pw3_10, tm3]; decide +kernel
theorem cv3_11 : cylV 3 11 = 0 := by unfold cylV; rw [show (11 - 1 : Nat) = 10 from rfl, show (2 ^ 3 : Nat) = 8 from rfl, pw3_11]; decide +kernel
theorem pw3_12 : powM (transM 3) 8 11 = [[2131, 0, 0, 780, 0, 0, 780, 0], [0, 1066, 0, 0, 1065, 0, 0, 780], [0, 0, 1, 0, 0, 0, 0, 0], [780, 0, 0, 286, 0, 0, 285, 0], [0, 1065, 0, 0, 1066, 0, 0, 780], [0, 0, 0, 0, 0, 1, 0, 0], [780, 0, 0, 285, 0, 0, 286, 0], [0, 780, 0, 0, 780, 0, 0, 571]] := by rw [powM, pw3_11, tm3]; decide +kernel
theorem cv3_12 : cylV 3 12 = 5408 := by unfold cylV; rw [show (12 - 1 : Nat) = 11 from rfl, show (2 ^ 3 : Nat) = 8 from rfl, pw3_12]; decide +kernel
theorem tm4 : transM 4 = [[1, 0, 0, 1, 0, 0, 0, 0, 0, 1, 0, 0, 1, 0, 0, 1], [0, 0, 1, 0, 0, 0, 0, 0, 1, 0, 0, 0, 0, 0, 1, 0], [0, 1, 0, 0, 0, 0, 0, 0, 0, 0, 0, 0, 0, 1, 0, 0], [1, 0, 0, 0, 0, 0, 0, 0, 0, 0, 0, 0, 1, 0, 0, 0], [0, 0, 0, 0, 0, 0, 0, 0, 1, 0, 0, 1, 0, 0, 0, 0], [0, 0, 0, 0, 0, 0, 0, 0, 0, 0, 1, 0, 0, 0, 0, 0], [0, 0, 0, 0, 0, 0, 0, 0, 0, 1, 0, 0, 0, 0, 0, 0], [0, 0, 0, 0, 0, 0, 0, 0, 1, 0, 0, 0, 0, 0, 0, 0], [0, 1, 0, 0, 1, 0, 0, 1, 0, 0, 0, 0, 0, 0, 0, 0], [1, 0, 0, 0, 0, 0, 1, 0, 0, 0, 0, 0, 0, 0, 0, 0], [0, 0, 0, 0, 0, 1, 0, 0, 0, 0, 0, 0, 0, 0, 0, 0], [0, 0, 0, 0, 1, 0, 0, 0, 0, 0, 0, 0, 0, 0, 0, 0], [1, 0, 0, 1, 0, 0, 0, 0, 0, 0, 0, 0, 0, 0, 0, 0], [0, 0, 1, 0, 0, 0, 0, 0, 0, 0, 0, 0, 0, 0, 0, 0], [0, 1, 0, 0, 0, 0, 0, 0, 0, 0, 0, 0, 0, 0, 0, 0], [1, 0, 0, 0, 0, 0, 0, 0, 0, 0, 0, 0, 0, 0, 0, 0]] := by decide +kernel
theorem pw4_1 : powM (transM 4) 16 0 = [[1, 0, 0, 1, 0, 0, 0, 0, 0, 1, 0, 0, 1, 0, 0, 1], [0, 0, 1, 0, 0, 0, 0, 0, 1, 0, 0, 0, 0, 0, 1, 0], [0, 1, 0, 0, 0, 0, 0, 0, 0, 0, 0, 0, 0, 1, 0, 0], [1, 0, 0, 0, 0, 0, 0, 0, 0, 0, 0, 0, 1, 0, 0, 0], [0, 0, 0, 0, 0, 0, 0, 0, 1, 0, 0, 1, 0, 0, 0, 0], [0, 0, 0, 0, 0, 0, 0, 0, 0, 0, 1, 0, 0, 0, 0, 0], [0, 0, 0, 0, 0, 0, 0, 0, 0, 1, 0, 0, 0, 0, 0, 0], [0, 0, 0, 0, 0, 0, 0, 0, 1, 0, 0, 0, 0, 0, 0, 0], [0, 1, 0, 0, 1, 0, 0, 1, 0, 0, 0, 0, 0, 0, 0, 0], [1, 0, 0, 0, 0, 0, 1, 0, 0, 0, 0, 0, 0, 0, 0, 0], [0, 0, 0, 0, 0, 1, 0, 0, 0, 0, 0, 0, 0, 0, 0, 0], [0, 0, 0, 0, 1, 0, 0, 0, 0, 0, 0, 0, 0, 0, 0, 0], [1, 0, 0, 1, 0, 0, 0, 0, 0, 0, 0, 0, 0, 0, 0, 0], [0, 0, 1, 0, 0, 0, 0, 0, 0, 0, 0, 0, 0, 0, 0, 0], [0, 1, 0, 0, 0, 0, 0, 0, 0, 0, 0, 0, 0, 0, 0, 0], [1, 0, 0, 0, 0, 0, 0, 0, 0, 0, 0, 0, 0, 0, 0, 0]] := tm4
theorem cv4_1 : cylV 4 1 = 1 := by unfold cylV; rw [show (1 - 1 : Nat) = 0 from rfl, show (2 ^ 4 : Nat) = 16 from rfl, pw4_1]; decide +kernel
theorem pw4_2 : powM (transM 4) 16 1 = [[5, 0, 0, 2, 0, 0, 1, 0, 0, 1, 0, 0, 2, 0, 0, 1], [0, 3, 0, 0, 1, 0, 0, 1, 0, 0, 0, 0, 0, 1, 0, 0], [0, 0, 2, 0, 0, 0, 0, 0, 1, 0, 0, 0, 0, 0, 1, 0], [2, 0, 0, 2, 0, 0, 0, 0, 0, 1, 0, 0, 1, 0, 0, 1], [0, 1, 0, 0, 2, 0, 0, 1, 0, 0, 0, 0, 0, 0, 0, 0], [0, 0, 0, 0, 0, 1, 0, 0, 0, 0, 0, 0, 0, 0, 0, 0], [1, 0, 0, 0, 0, 0, 1, 0, 0, 0, 0, 0, 0, 0, 0, 0], [0, 1, 0, 0, 1, 0, 0, 1, 0, 0, 0, 0, 0, 0, 0, 0], [0, 0, 1, 0, 0, 0, 0, 0, 3, 0, 0, 1, 0, 0, 1, 0], [1, 0, 0, 1, 0, 0, 0, 0, 0, 2, 0, 0, 1, 0, 0, 1], [0, 0, 0, 0, 0, 0, 0, 0, 0, 0, 1, 0, 0, 0, 0, 0], [0, 0, 0, 0, 0, 0, 0, 0, 1, 0, 0, 1, 0, 0, 0, 0], [2, 0, 0, 1, 0, 0, 0, 0, 0, 1, 0, 0, 2, 0, 0, 1], [0, 1, 0, 0, 0, 0, 0, 0, 0, 0, 0, 0, 0, 1, 0, 0], [0, 0, 1, 0, 0, 0, 0, 0, 1, 0, 0, 0, 0, 0, 1, 0], [1, 0, 0, 1, 0, 0, 0, 0, 0, 1, 0, 0, 1, 0, 0, 1]] := by rw [powM, pw4_1, tm4]; decide +kernel
theorem cv4_2 : cylV 4 2 = 29 := by unfold cylV; rw [show (2 - 1 : Nat) = 1 from rfl, show (2 ^ 4 : Nat) = 16 from rfl, pw4_2]; decide +kernel
theorem pw4_3 : powM (transM 4) 16 2 = [[11, 0, 0, 7, 0, 0, 1, 0, 0, 6, 0, 0, 7, 0, 0, 5], [0, 0, 4, 0, 0, 0, 0, 0, 5, 0, 0, 1, 0, 0, 3, 0], [0, 4, 0, 0, 1, 0, 0, 1, 0, 0, 0, 0, 0, 2, 0, 0], [7, 0, 0, 3, 0, 0, 1, 0, 0, 2, 0, 0, 4, 0, 0, 2], [0, 0, 1, 0, 0, 0, 0, 0, 4, 0, 0, 2, 0, 0, 1, 0], [0, 0, 0, 0, 0, 0, 0, 0, 0, 0, 1, 0, 0, 0, 0, 0], [1, 0, 0, 1, 0, 0, 0, 0, 0, 2, 0, 0, 1, 0, 0, 1], [0, 0, 1, 0, 0, 0, 0, 0, 3, 0, 0, 1, 0, 0, 1, 0], [0, 5, 0, 0, 4, 0, 0, 3, 0, 0, 0, 0, 0, 1, 0, 0], [6, 0, 0, 2, 0, 0, 2, 0, 0, 1, 0, 0, 2, 0, 0, 1], [0, 0, 0, 0, 0, 1, 0, 0, 0, 0, 0, 0, 0, 0, 0, 0], [0, 1, 0, 0, 2, 0, 0, 1, 0, 0, 0, 0, 0, 0, 0, 0], [7, 0, 0, 4, 0, 0, 1, 0, 0, 2, 0, 0, 3, 0, 0, 2], [0, 0, 2, 0, 0, 0, 0, 0, 1, 0, 0, 0, 0, 0, 1, 0], [0, 3, 0, 0, 1, 0, 0, 1, 0, 0, 0, 0, 0, 1, 0, 0], [5, 0, 0, 2, 0, 0, 1, 0, 0, 1, 0, 0, 2, 0, 0, 1]] := by rw [powM, pw4_2, tm4]; decide +kernel
theorem cv4_3 : cylV 4 3 = 19 := by unfold cylV; rw [show (3 - 1 : Nat) = 2 from rfl, show (2 ^ 4 : Nat) = 16 from rfl, pw4_3]; decide +kernel
theorem pw4_4 : powM (transM 4) 16 3 = [[36, 0, 0, 18, 0, 0, 6, 0, 0, 12, 0, 0, 18, 0, 0, 11], [0, 12, 0, 0, 6, 0, 0, 5, 0, 0, 0, 0, 0, 4, 0, 0], [0, 0, 6, 0, 0, 0, 0, 0, 6, 0, 0, 1, 0, 0, 4, 0], [18, 0, 0, 11, 0, 0, 2, 0, 0, 8, 0, 0, 10, 0, 0, 7], [0, 6, 0, 0, 6, 0, 0, 4, 0, 0, 0, 0, 0, 1, 0, 0], [0, 0, 0, 0, 0, 1, 0, 0, 0, 0, 0, 0, 0, 0, 0, 0], [6, 0, 0, 2, 0, 0, 2, 0, 0, 1, 0, 0, 2, 0, 0, 1], [0, 5, 0, 0, 4, 0, 0, 3, 0, 0, 0, 0, 0, 1, 0, 0], [0, 0, 6, 0, 0, 0, 0, 0, 12, 0, 0, 4, 0, 0, 5, 0], [12, 0, 0, 8, 0, 0, 1, 0, 0, 8, 0, 0, 8, 0, 0, 6], [0, 0, 0, 0, 0, 0, 0, 0, 0, 0, 1, 0, 0, 0, 0, 0], [0, 0, 1, 0, 0, 0, 0, 0, 4, 0, 0, 2, 0, 0, 1, 0], [18, 0, 0, 10, 0, 0, 2, 0, 0, 8, 0, 0, 11, 0, 0, 7], [0, 4, 0, 0, 1, 0, 0, 1, 0, 0, 0, 0, 0, 2, 0, 0], [0, 0, 4, 0, 0, 0, 0, 0, 5, 0, 0, 1, 0, 0, 3, 0], [11, 0, 0, 7, 0, 0, 1, 0, 0, 6, 0, 0, 7, 0, 0, 5]] := by rw [powM, pw4_3, tm4]; decide +kernel
theorem cv4_4 : cylV 4 4 = 121 := by unfold cylV; rw [show (4 - 1 : Nat) = 3 from rfl, show (2 ^ 4 : Nat) = 16 from rfl, pw4_4]; decide +kernel
theorem pw4_5 : powM (transM 4) 16 4 = [[95, 0, 0, 54, 0, 0, 12, 0, 0, 42, 0, 0, 54, 0, 0, 36], [0, 0, 16, 0, 0, 0, 0, 0, 23, 0, 0, 6, 0, 0, 12, 0], [0, 16, 0, 0, 7, 0, 0, 6, 0, 0, 0, 0, 0, 6, 0, 0], [54, 0, 0, 28, 0, 0, 8, 0, 0, 20, 0, 0, 29, 0, 0, 18], [0, 0, 7, 0, 0, 0, 0, 0, 16, 0, 0, 6, 0, 0, 6, 0], [0, 0, 0, 0, 0, 0, 0, 0, 0, 0, 1, 0, 0, 0, 0, 0], [12, 0, 0, 8, 0, 0, 1, 0, 0, 8, 0, 0, 8, 0, 0, 6], [0, 0, 6, 0, 0, 0, 0, 0, 12, 0, 0, 4, 0, 0, 5, 0], [0, 23, 0, 0, 16, 0, 0, 12, 0, 0, 0, 0, 0, 6, 0, 0], [42, 0, 0, 20, 0, 0, 8, 0, 0, 13, 0, 0, 20, 0, 0, 12], [0, 0, 0, 0, 0, 1, 0, 0, 0, 0, 0, 0, 0, 0, 0, 0], [0, 6, 0, 0, 6, 0, 0, 4, 0, 0, 0, 0, 0, 1, 0, 0], [54, 0, 0, 29, 0, 0, 8, 0, 0, 20, 0, 0, 28, 0, 0, 18], [0, 0, 6, 0, 0, 0, 0, 0, 6, 0, 0, 1, 0, 0, 4, 0], [0, 12, 0, 0, 6, 0, 0, 5, 0, 0, 0, 0, 0, 4, 0, 0], [36, 0, 0, 18, 0, 0, 6, 0, 0, 12, 0, 0, 18, 0, 0, 11]] := by rw [powM, pw4_4, tm4]; decide +kernel
theorem cv4_5 : cylV 4 5 = 176 := by unfold cylV; rw [show (5 - 1 : Nat) = 4 from rfl, show (2 ^ 4 : Nat) = 16 from rfl, pw4_5]; decide +kernel
theorem pw4_6 : powM (transM 4) 16 5 = [[281, 0, 0, 149, 0, 0, 42, 0, 0, 107, 0, 0, 149, 0, 0, 95], [0, 51, 0, 0, 29, 0, 0, 23, 0, 0, 0, 0, 0, 16, 0, 0], [0, 0, 22, 0, 0, 0, 0, 0, 29, 0, 0, 7, 0, 0, 16, 0], [149, 0, 0, 83, 0, 0, 20, 0, 0, 62, 0, 0, 82, 0, 0, 54], [0, 29, 0, 0, 22, 0, 0, 16, 0, 0, 0, 0, 0, 7, 0, 0], [0, 0, 0, 0, 0, 1, 0, 0, 0, 0, 0, 0, 0, 0, 0, 0], [42, 0, 0, 20, 0, 0, 8, 0, 0, 13, 0, 0, 20, 0, 0, 12], [0, 23, 0, 0, 16, 0, 0, 12, 0, 0, 0, 0, 0, 6, 0, 0], [0, 0, 29, 0, 0, 0, 0, 0, 51, 0, 0, 16, 0, 0, 23, 0], [107, 0, 0, 62, 0, 0, 13, 0, 0, 50, 0, 0, 62, 0, 0, 42], [0, 0, 0, 0, 0, 0, 0, 0, 0, 0, 1, 0, 0, 0, 0, 0], [0, 0, 7, 0, 0, 0, 0, 0, 16, 0, 0, 6, 0, 0, 6, 0], [149, 0, 0, 82, 0, 0, 20, 0, 0, 62, 0, 0, 83, 0, 0, 54], [0, 16, 0, 0, 7, 0, 0, 6, 0, 0, 0, 0, 0, 6, 0, 0], [0, 0, 16, 0, 0, 0, 0, 0, 23, 0, 0, 6, 0, 0, 12, 0], [95, 0, 0, 54, 0, 0, 12, 0, 0, 42, 0, 0, 54, 0, 0, 36]] := by rw [powM, pw4_5, tm4]; decide +kernel
theorem cv4_6 : cylV 4 6 = 725 := by unfold cylV; rw [show (6 - 1 : Nat) = 5 from rfl, show (2 ^ 4 : Nat) = 16 from rfl, pw4_6]; decide +kernel
theorem pw4_7 : powM (transM 4) 16 6 = [[781, 0, 0, 430, 0, 0, 107, 0, 0, 323, 0, 0, 430, 0, 0, 281], [0, 0, 67, 0, 0, 0, 0, 0, 103, 0, 0, 29, 0, 0, 51, 0], [0, 67, 0, 0, 36, 0, 0, 29, 0, 0, 0, 0, 0, 22, 0, 0], [430, 0, 0, 231, 0, 0, 62, 0, 0, 169, 0, 0, 232, 0, 0, 149], [0, 0, 36, 0, 0, 0, 0, 0, 67, 0, 0, 22, 0, 0, 29, 0], [0, 0, 0, 0, 0, 0, 0, 0, 0, 0, 1, 0, 0, 0, 0, 0], [107, 0, 0, 62, 0, 0, 13, 0, 0, 50, 0, 0, 62, 0, 0, 42], [0, 0, 29, 0, 0, 0, 0, 0, 51, 0, 0, 16, 0, 0, 23, 0], [0, 103, 0, 0, 67, 0, 0, 51, 0, 0, 0, 0, 0, 29, 0, 0], [323, 0, 0, 169, 0, 0, 50, 0, 0, 120, 0, 0, 169, 0, 0, 107], [0, 0, 0, 0, 0, 1, 0, 0, 0, 0, 0, 0, 0, 0, 0, 0], [0, 29, 0, 0, 22, 0, 0, 16, 0, 0, 0, 0, 0, 7, 0, 0], [430, 0, 0, 232, 0, 0, 62, 0, 0, 169, 0, 0, 231, 0, 0, 149], [0, 0, 22, 0, 0, 0, 0, 0, 29, 0, 0, 7, 0, 0, 16, 0], [0, 51, 0, 0, 29, 0, 0, 23, 0, 0, 0, 0, 0, 16, 0, 0], [281, 0, 0, 149, 0, 0, 42, 0, 0, 107, 0, 0, 149, 0, 0, 95]] := by rw [powM, pw4_6, tm4]; decide +kernel
theorem cv4_7 : cylV 4 7 = 1471 := by unfold cylV; rw [show (7 - 1 : Nat) = 6 from rfl, show (2 ^ 4 : Nat) = 16 from rfl, pw4_7]; decide +kernel
theorem pw4_8 : powM (transM 4) 16 7 = [[2245, 0, 0, 1211, 0, 0, 323, 0, 0, 888, 0, 0, 1211, 0, 0, 781], [0, 221, 0, 0, 132, 0, 0, 103, 0, 0, 0, 0, 0, 67, 0, 0], [0, 0, 89, 0, 0, 0, 0, 0, 132, 0, 0, 36, 0, 0, 67, 0], [1211, 0, 0, 662, 0, 0, 169, 0, 0, 492, 0, 0, 661, 0, 0, 430], [0, 132, 0, 0, 89, 0, 0, 67, 0, 0, 0, 0, 0, 36, 0, 0], [0, 0, 0, 0, 0, 1, 0, 0, 0, 0, 0, 0, 0, 0, 0, 0], [323, 0, 0, 169, 0, 0, 50, 0, 0, 120, 0, 0, 169, 0, 0, 107], [0, 103, 0, 0, 67, 0, 0, 51, 0, 0, 0, 0, 0, 29, 0, 0], [0, 0, 132, 0, 0, 0, 0, 0, 221, 0, 0, 67, 0, 0, 103, 0], [888, 0, 0, 492, 0, 0, 120, 0, 0, 373, 0, 0, 492, 0, 0, 323], [0, 0, 0, 0, 0, 0, 0, 0, 0, 0, 1, 0, 0, 0, 0, 0], [0, 0, 36, 0, 0, 0, 0, 0, 67, 0, 0, 22, 0, 0, 29, 0], [1211, 0, 0, 661, 0, 0, 169, 0, 0, 492, 0, 0, 662, 0, 0, 430], [0, 67, 0, 0, 36, 0, 0, 29, 0, 0, 0, 0, 0, 22, 0, 0], [0, 0, 67, 0, 0, 0, 0, 0, 103, 0, 0, 29, 0, 0, 51, 0], [781, 0, 0, 430, 0, 0, 107, 0, 0, 323, 0, 0, 430, 0, 0, 281]] := by rw [powM, pw4_7, tm4]; decide +kernel
theorem cv4_8 : cylV 4 8 = 5041 := by unfold cylV; rw [show (8 - 1 : Nat) = 7 from rfl, show (2 ^ 4 : Nat) = 16 from rfl, pw4_8]; decide +kernel
theorem pw4_9 : powM (transM 4) 16 8 = [[6336, 0, 0, 3456, 0, 0, 888, 0, 0, 2568, 0, 0, 3456, 0, 0, 2245], [0, 0, 288, 0, 0, 0, 0, 0, 456, 0, 0, 132, 0, 0, 221, 0], [0, 288, 0, 0, 168, 0, 0, 132, 0, 0, 0, 0, 0, 89, 0, 0], [3456, 0, 0, 1872, 0, 0, 492, 0, 0, 1380, 0, 0, 1873, 0, 0, 1211], [0, 0, 168, 0, 0, 0, 0, 0, 288, 0, 0, 89, 0, 0, 132, 0], [0, 0, 0, 0, 0, 0, 0, 0, 0, 0, 1, 0, 0, 0, 0, 0], [888, 0, 0, 492, 0, 0, 120, 0, 0, 373, 0, 0, 492, 0, 0, 323], [0, 0, 132, 0, 0, 0, 0, 0, 221, 0, 0, 67, 0, 0, 103, 0], [0, 456, 0, 0, 288, 0, 0, 221, 0, 0, 0, 0, 0, 132, 0, 0], [2568, 0, 0, 1380, 0, 0, 373, 0, 0, 1008, 0, 0, 1380, 0, 0, 888], [0, 0, 0, 0, 0, 1, 0, 0, 0, 0, 0, 0, 0, 0, 0, 0], [0, 132, 0, 0, 89, 0, 0, 67, 0, 0, 0, 0, 0, 36, 0, 0], [3456, 0, 0, 1873, 0, 0, 492, 0, 0, 1380, 0, 0, 1872, 0, 0, 1211], [0, 0, 89, 0, 0, 0, 0, 0, 132, 0, 0, 36, 0, 0, 67, 0], [0, 221, 0, 0, 132, 0, 0, 103, 0, 0, 0, 0, 0, 67, 0, 0], [2245, 0, 0, 1211, 0, 0, 323, 0, 0, 888, 0, 0, 1211, 0, 0, 781]] := by rw [powM, pw4_8, tm4]; decide +kernel
theorem cv4_9 : cylV 4 9 = 11989 := by unfold cylV; rw [show (9 - 1 : Nat) = 8 from rfl, show (2 ^ 4 : Nat) = 16 from rfl, pw4_9]; decide +kernel
theorem pw4_10 : powM (transM 4) 16 9 = [[18061, 0, 0, 9792, 0, 0, 2568, 0, 0, 7224, 0, 0, 9792, 0, 0, 6336], [0, 965, 0, 0, 588, 0, 0, 456, 0, 0, 0, 0, 0, 288, 0, 0], [0, 0, 377, 0, 0, 0, 0, 0, 588, 0, 0, 168, 0, 0, 288, 0], [9792, 0, 0, 5329, 0, 0, 1380, 0, 0, 3948, 0, 0, 5328, 0, 0, 3456], [0, 588, 0, 0, 377, 0, 0, 288, 0, 0, 0, 0, 0, 168, 0, 0], [0, 0, 0, 0, 0, 1, 0, 0, 0, 0, 0, 0, 0, 0, 0, 0], [2568, 0, 0, 1380, 0, 0, 373, 0, 0, 1008, 0, 0, 1380, 0, 0, 888], [0, 456, 0, 0, 288, 0, 0, 221, 0, 0, 0, 0, 0, 132, 0, 0], [0, 0, 588, 0, 0, 0, 0, 0, 965, 0, 0, 288, 0, 0, 456, 0], [7224, 0, 0, 3948, 0, 0, 1008, 0, 0, 2941, 0, 0, 3948, 0, 0, 2568], [0, 0, 0, 0, 0, 0, 0, 0, 0, 0, 1, 0, 0, 0, 0, 0], [0, 0, 168, 0, 0, 0, 0, 0, 288, 0, 0, 89, 0, 0, 132, 0], [9792, 0, 0, 5328, 0, 0, 1380, 0, 0, 3948, 0, 0, 5329, 0, 0, 3456], [0, 288, 0, 0, 168, 0, 0, 132, 0, 0, 0, 0, 0, 89, 0, 0], [0, 0, 288, 0, 0, 0, 0, 0, 456, 0, 0, 132, 0, 0, 221, 0], [6336, 0, 0, 3456, 0, 0, 888, 0, 0, 2568, 0, 0, 3456, 0, 0, 2245]] := by rw [powM, pw4_9, tm4]; decide +kernel
theorem cv4_10 : cylV 4 10 = 37584 := by unfold cylV; rw [show (10 - 1 : Nat) = 9 from rfl, show (2 ^ 4 : Nat) = 16 from rfl, pw4_10]; decide +kernel
theorem pw4_11 : powM (transM 4) 16 10 = [[51205, 0, 0, 27853, 0, 0, 7224, 0, 0, 20629, 0, 0, 27853, 0, 0, 18061], [0, 0, 1253, 0, 0, 0, 0, 0, 2009, 0, 0, 588, 0, 0, 965, 0], [0, 1253, 0, 0, 756, 0, 0, 588, 0, 0, 0, 0, 0, 377, 0, 0], [27853, 0, 0, 15120, 0, 0, 3948, 0, 0, 11172, 0, 0, 15121, 0, 0, 9792], [0, 0, 756, 0, 0, 0, 0, 0, 1253, 0, 0, 377, 0, 0, 588, 0], [0, 0, 0, 0, 0, 0, 0, 0, 0, 0, 1, 0, 0, 0, 0, 0], [7224, 0, 0, 3948, 0, 0, 1008, 0, 0, 2941, 0, 0, 3948, 0, 0, 2568], [0, 0, 588, 0, 0, 0, 0, 0, 965, 0, 0, 288, 0, 0, 456, 0], [0, 2009, 0, 0, 1253, 0, 0, 965, 0, 0, 0, 0, 0, 588, 0, 0], [20629, 0, 0, 11172, 0, 0, 2941, 0, 0, 8232, 0, 0, 11172, 0, 0, 7224], [0, 0, 0, 0, 0, 1, 0, 0, 0, 0, 0, 0, 0, 0, 0, 0], [0, 588, 0, 0, 377, 0, 0, 288, 0, 0, 0, 0, 0, 168, 0, 0], [27853, 0, 0, 15121, 0, 0, 3948, 0, 0, 11172, 0, 0, 15120, 0, 0, 9792], [0, 0, 377, 0, 0, 0, 0, 0, 588, 0, 0, 168, 0, 0, 288, 0], [0, 965, 0, 0, 588, 0, 0, 456, 0, 0, 0, 0, 0, 288, 0, 0], [18061, 0, 0, 9792, 0, 0, 2568, 0, 0, 7224, 0, 0, 9792, 0, 0, 6336]] := by rw [powM, pw4_10, tm4]; decide +kernel
theorem cv4_11 : cylV 4 11 = 97021 := by unfold cylV; rw [show (11 - 1 : Nat) = 10 from rfl, show (2 ^ 4 : Nat) = 16 from rfl, pw4_11]; decide +kernel
theorem pw4_12 : powM (transM 4) 16 11 = [[145601, 0, 0, 79058, 0, 0, 20629, 0, 0, 58429, 0, 0, 79058, 0, 0, 51205], [0, 4227, 0, 0, 2597, 0, 0, 2009, 0, 0, 0, 0, 0, 1253, 0, 0], [0, 0, 1630, 0, 0, 0, 0, 0, 2597, 0, 0, 756, 0, 0, 1253, 0], [79058, 0, 0, 42974, 0, 0, 11172, 0, 0, 31801, 0, 0, 42973, 0, 0, 27853], [0, 2597, 0, 0, 1630, 0, 0, 1253, 0, 0, 0, 0, 0, 756, 0, 0], [0, 0, 0, 0, 0, 1, 0, 0, 0, 0, 0, 0, 0, 0, 0, 0], [20629, 0, 0, 11172, 0, 0, 2941, 0, 0, 8232, 0, 0, 11172, 0, 0, 7224], [0, 2009, 0, 0, 1253, 0, 0, 965, 0, 0, 0, 0, 0, 588, 0, 0], [0, 0, 2597, 0, 0, 0, 0, 0, 4227, 0, 0, 1253, 0, 0, 2009, 0], [58429, 0, 0, 31801, 0, 0, 8232, 0, 0, 23570, 0, 0, 31801, 0, 0, 20629], [0, 0, 0, 0, 0, 0, 0, 0, 0, 0, 1, 0, 0, 0, 0, 0], [0, 0, 756, 0, 0, 0, 0, 0, 1253, 0, 0, 377, 0, 0, 588, 0], [79058, 0, 0, 42973, 0, 0, 11172, 0, 0, 31801, 0, 0, 42974, 0, 0, 27853], [0, 1253, 0, 0, 756, 0, 0, 588, 0, 0, 0, 0, 0, 377, 0, 0], [0, 0, 1253, 0, 0, 0, 0, 0, 2009, 0, 0, 588, 0, 0, 965, 0], [51205, 0, 0, 27853, 0, 0, 7224, 0, 0, 20629, 0, 0, 27853, 0, 0, 18061]] := by rw [powM, pw4_11, tm4]; decide +kernel
theorem cv4_12 : cylV 4 12 = 290521 := by unfold cylV; rw [show (12 - 1 : Nat) = 11 from rfl, show (2 ^ 4 : Nat) = 16 from rfl, pw4_12]; decide +kernel
theorem cl1_3 : cylL (1 : Nat) (3 : Nat) = [3, 5, 6] := by decide +kernel
theorem sr1_3 : (srchF (cylL (1 : Nat) (3 : Nat)) 7 7).length = 0 := by rw [cl1_3]; decide +kernel
theorem cc1_3 : ccR (1 : Nat) (3 : Nat) = cylV 1 3 := by unfold ccR; rw [if_pos (by decide), cv1_3]; rw [show 2 ^ (Int.toNat ((1 : Nat) : Int) * Int.toNat ((3 : Nat) : Int)) - 1 = 7 from rfl, sr1_3]; rfl
theorem cl1_4 : cylL (1 : Nat) (4 : Nat) = [3, 6, 9, 12] := by decide +kernel
theorem sr1_4 : (srchF (cylL (1 : Nat) (4 : Nat)) 15 15).length = 2 := by rw [cl1_4]; decide +kernel
theorem cc1_4 : ccR (1 : Nat) (4 : Nat) = cylV 1 4 := by unfold ccR; rw [if_pos (by decide), cv1_4]; rw [show 2 ^ (Int.toNat ((1 : Nat) : Int) * Int.toNat ((4 : Nat) : Int)) - 1 = 15 from rfl, sr1_4]; rfl
theorem cl1_5 : cylL (1 : Nat) (5 : Nat) = [3, 6, 12, 17, 24] := by decide +kernel
theorem sr1_5 : (srchF (cylL (1 : Nat) (5 : Nat)) 31 31).length = 0 := by rw [cl1_5]; decide +kernel
theorem cc1_5 : ccR (1 : Nat) (5 : Nat) = cylV 1 5 := by unfold ccR; rw [if_pos (by decide), cv1_5]; rw [show 2 ^ (Int.toNat ((1 : Nat) : Int) * Int.toNat ((5 : Nat) : Int)) - 1 = 31 from rfl, sr1_5]; rfl
theorem cl2_3 : cylL (2 : Nat) (3 : Nat) = [3, 5, 10, 12, 17, 20, 34, 40, 48] := by decide +kernel
theorem sr2_3 : (srchF (cylL (2 : Nat) (3 : Nat)) 63 63).length = 4 := by rw [cl2_3]; decide +kernel
theorem cc2_3 : ccR (2 : Nat) (3 : Nat) = cylV 2 3 := by unfold ccR; rw [if_pos (by decide), cv2_3]; rw [show 2 ^ (Int.toNat ((2 : Nat) : Int) * Int.toNat ((3 : Nat) : Int)) - 1 = 63 from rfl, sr2_3]; rfl
theorem cl2_4 : cylL (2 : Nat) (4 : Nat) = [3, 5, 10, 12, 20, 40, 48, 65, 80, 130, 160, 192] := by decide +kernel
theorem sr2_4 : (srchF (cylL (2 : Nat) (4 : Nat)) 255 255).length = 9 := by rw [cl2_4]; decide +kernel
theorem cc2_4 : ccR (2 : Nat) (4 : Nat) = cylV 2 4 := by unfold ccR; rw [if_pos (by decide), cv2_4]; rw [show 2 ^ (Int.toNat ((2 : Nat) : Int) * Int.toNat ((4 : Nat) : Int)) - 1 = 255 from rfl, sr2_4]; rfl
theorem cl2_5 : cylL (2 : Nat) (5 : Nat) = [3, 5, 10, 12, 20, 40, 48, 80, 160, 192, 257, 320, 514, 640, 768] := by decide +kernel
theorem sr2_5 : (srchF (cylL (2 : Nat) (5 : Nat)) 1023 1023).length = 11 := by rw [cl2_5]; decide +kernel
theorem cc2_5 : ccR (2 : Nat) (5 : Nat) = cylV 2 5 := by unfold ccR; rw [if_pos (by decide), cv2_5]; rw [show 2 ^ (Int.toNat ((2 : Nat) : Int) * Int.toNat ((5 : Nat) : Int)) - 1 = 1023 from rfl, sr2_5]; rfl
theorem cl3_3 : cylL (3 : Nat) (3 : Nat) = [3, 6, 9, 18, 24, 36, 48, 65, 72, 130, 144, 192, 260, 288, 384] := by decide +kernel
theorem sr3_3 : (srchF (cylL (3 : Nat) (3 : Nat)) 511 511).length = 0 := by rw [cl3_3]; decide +kernel
theorem cc3_3 : ccR (3 : Nat) (3 : Nat) = cylV 3 3 := by unfold ccR; rw [if_pos (by decide), cv3_3]; rw [show 2 ^ (Int.toNat ((3 : Nat) : Int) * Int.toNat ((3 : Nat) : Int)) - 1 = 511 from rfl, sr3_3]; rfl
theorem cl3_4 : cylL (3 : Nat) (4 : Nat) = [3, 6, 9, 18, 24, 36, 48, 72, 144, 192, 288, 384, 513, 576, 1026, 1152, 1536, 2052, 2304, 3072] := by decide +kernel
theorem sr3_4 : (srchF (cylL (3 : Nat) (4 : Nat)) 4095 4095).length = 32 := by rw [cl3_4]; decide +kernel
theorem cc3_4 : ccR (3 : Nat) (4 : Nat) = cylV 3 4 := by unfold ccR; rw [if_pos (by decide), cv3_4]; rw [show 2 ^ (Int.toNat ((3 : Nat) : Int) * Int.toNat ((4 : Nat) : Int)) - 1 = 4095 from rfl, sr3_4]; rfl
theorem cl3_5 : cylL (3 : Nat) (5 : Nat) = [3, 6, 9, 18, 24, 36, 48, 72, 144, 192, 288, 384, 576, 1152, 1536, 2304, 3072, 4097, 4608, 8194, 9216, 12288, 16388, 18432, 24576] := by decide +kernel
theorem sr3_5 : (srchF (cylL (3 : Nat) (5 : Nat)) 32767 32767).length = 0 := by rw [cl3_5]; decide +kernel
theorem cc3_5 : ccR (3 : Nat) (5 : Nat) = cylV 3 5 := by unfold ccR; rw [if_pos (by decide), cv3_5]; rw [show 2 ^ (Int.toNat ((3 : Nat) : Int) * Int.toNat ((5 : Nat) : Int)) - 1 = 32767 from rfl, sr3_5]; rfl
theorem cl4_3 : cylL (4 : Nat) (3 : Nat) = [3, 6, 12, 17, 34, 48, 68, 96, 136, 192, 257, 272, 514, 544, 768, 1028, 1088, 1536, 2056, 2176, 3072] := by decide +kernel
theorem sr4_3 : (srchF (cylL (4 : Nat) (3 : Nat)) 4095 4095).length = 19 := by rw [cl4_3]; decide +kernel
theorem cc4_3 : ccR (4 : Nat) (3 : Nat) = cylV 4 3 := by unfold ccR; rw [if_pos (by decide), cv4_3]; rw [show 2 ^ (Int.toNat ((4 : Nat) : Int) * Int.toNat ((3 : Nat) : Int)) - 1 = 4095 from rfl, sr4_3]; rfl
theorem cl4_4 : cylL (4 : Nat) (4 : Nat) = [3, 6, 12, 17, 34, 48, 68, 96, 136, 192, 272, 544, 768, 1088, 1536, 2176, 3072, 4097, 4352, 8194, 8704, 12288, 16388, 17408, 24576, 32776, 34816, 49152] := by decide +kernel
theorem sr4_4 : (srchF (cylL (4 : Nat) (4 : Nat)) 65535 65535).length = 121 := by rw [cl4_4]; decide +kernel
theorem cc4_4 : ccR (4 : Nat) (4 : Nat) = cylV 4 4 := by unfold ccR; rw [if_pos (by decide), cv4_4]; rw [show 2 ^ (Int.toNat ((4 : Nat) : Int) * Int.toNat ((4 : Nat) : Int)) - 1 = 65535 from rfl, sr4_4]; rfl
theorem cl4_5 : cylL (4 : Nat) (5 : Nat) = [3, 6, 12, 17, 34, 48, 68, 96, 136, 192, 272, 544, 768, 1088, 1536, 2176, 3072, 4352, 8704, 12288, 17408, 24576, 34816, 49152, 65537, 69632, 131074, 139264, 196608, 262148, 278528, 393216, 524296, 557056, 786432] := by decide +kernel
theorem sr4_5 : (srchF (cylL (4 : Nat) (5 : Nat)) 1048575 1048575).length = 176 := by rw [cl4_5]; decide +kernel
theorem cc4_5 : ccR (4 : Nat) (5 : Nat) = cylV 4 5 := by unfold ccR; rw [if_pos (by decide), cv4_5]; rw [show 2 ^ (Int.toNat ((4 : Nat) : Int) * Int.toNat ((5 : Nat) : Int)) - 1 = 1048575 from rfl, sr4_5]; rfl
/-- Where the count is one, it is the trace. -/
theorem cc_trace {a b : Nat} (ha : a < 5) (hb : b < 6) (h : 0 ≤ ccR a b) : ccR a b = cylCount a b := by
  have hf : CylFine a b := by
    by_cases q : CylFine a b
    · exact q
    · rw [show ccR a b = -1 from if_neg q] at h; omega
  obtain ⟨⟨h1, h2⟩, h3, h4⟩ := hf
  have e : cylCount a b = cylV a b := by unfold cylCount; rw [if_pos ⟨⟨h1, h2⟩, by omega, by omega⟩, Int.toNat_natCast, Int.toNat_natCast]
  rw [e]
  obtain rfl | rfl | rfl | rfl : a = 1 ∨ a = 2 ∨ a = 3 ∨ a = 4 := by omega
  · obtain rfl | rfl | rfl : b = 3 ∨ b = 4 ∨ b = 5 := by omega
    · exact cc1_3
    · exact cc1_4
    · exact cc1_5
  · obtain rfl | rfl | rfl : b = 3 ∨ b = 4 ∨ b = 5 := by omega
    · exact cc2_3
    · exact cc2_4
    · exact cc2_5
  · obtain rfl | rfl | rfl : b = 3 ∨ b = 4 ∨ b = 5 := by omega
    · exact cc3_3
    · exact cc3_4
    · exact cc3_5
  · obtain rfl | rfl | rfl : b = 3 ∨ b = 4 ∨ b = 5 := by omega
    · exact cc4_3
    · exact cc4_4
    · exact cc4_5
/-- Every other number of a list, from the second on. -/
def evenTo (xs : List Int) (k : Nat) : List Int := (List.range k).map fun i => xs.getD (2 * i + 1) 0
theorem evenTo_length (xs : List Int) (k : Nat) : (evenTo xs k).length = k := by simp [evenTo]
theorem evenTo_snoc (xs : List Int) (k : Nat) : evenTo xs (k + 1) = evenTo xs k ++ [xs.getD (2 * k + 1) 0] := by simp [evenTo, List.range_succ]
theorem Lg_even (xs : List Int) {k i : Nat} (h : i < k) : Lg (evenTo xs k) i = xs.getD (2 * i + 1) 0 := by
  unfold Lg evenTo
  rw [List.getD_eq_getElem?_getD, List.getElem?_map, List.getElem?_range h]
  rfl
theorem grow_at {W i n : Nat} (h1 : 1 ≤ W) (h2 : W ≤ 4) (hi : i < n) (hn : n ≤ 12) : (growTo (W : Int) n).getD i 0 = cylV W (i + 1) := by
  unfold growTo
  rw [List.getD_eq_getElem?_getD, List.getElem?_map, List.getElem?_range hi]
  show cylCount (W : Int) ((i : Int) + 1) = _
  unfold cylCount
  rw [if_pos ⟨⟨by omega, by omega⟩, by omega, by omega⟩, Int.toNat_natCast]
  rfl
theorem even_vals {W k n : Nat} (h1 : 1 ≤ W) (h2 : W ≤ 4) (hk : 2 * k ≤ n) (hn : n ≤ 12) : ∀ i, i < k → Lg (evenTo (growTo (W : Int) n) k) i = cylV W (2 * i + 2) := fun i hi => by
  rw [Lg_even _ hi]
  exact grow_at h1 h2 (by omega) hn
theorem even_small {W : Nat} (h1 : 1 ≤ W) (h2 : W ≤ 4) : ∀ i, i < 6 → 0 ≤ cylV W (2 * i + 2) ∧ cylV W (2 * i + 2) ≤ 1000000 := by
  intro i hi
  obtain rfl | rfl | rfl | rfl : W = 1 ∨ W = 2 ∨ W = 3 ∨ W = 4 := by omega
  · obtain rfl | rfl | rfl | rfl | rfl | rfl : i = 0 ∨ i = 1 ∨ i = 2 ∨ i = 3 ∨ i = 4 ∨ i = 5 := by omega
    · show 0 ≤ cylV 1 2 ∧ cylV 1 2 ≤ 1000000; rw [cv1_2]; decide
    · show 0 ≤ cylV 1 4 ∧ cylV 1 4 ≤ 1000000; rw [cv1_4]; decide
    · show 0 ≤ cylV 1 6 ∧ cylV 1 6 ≤ 1000000; rw [cv1_6]; decide
    · show 0 ≤ cylV 1 8 ∧ cylV 1 8 ≤ 1000000; rw [cv1_8]; decide
    · show 0 ≤ cylV 1 10 ∧ cylV 1 10 ≤ 1000000; rw [cv1_10]; decide
    · show 0 ≤ cylV 1 12 ∧ cylV 1 12 ≤ 1000000; rw [cv1_12]; decide
  · obtain rfl | rfl | rfl | rfl | rfl | rfl : i = 0 ∨ i = 1 ∨ i = 2 ∨ i = 3 ∨ i = 4 ∨ i = 5 := by omega
    · show 0 ≤ cylV 2 2 ∧ cylV 2 2 ≤ 1000000; rw [cv2_2]; decide
    · show 0 ≤ cylV 2 4 ∧ cylV 2 4 ≤ 1000000; rw [cv2_4]; decide
    · show 0 ≤ cylV 2 6 ∧ cylV 2 6 ≤ 1000000; rw [cv2_6]; decide
    · show 0 ≤ cylV 2 8 ∧ cylV 2 8 ≤ 1000000; rw [cv2_8]; decide
    · show 0 ≤ cylV 2 10 ∧ cylV 2 10 ≤ 1000000; rw [cv2_10]; decide
    · show 0 ≤ cylV 2 12 ∧ cylV 2 12 ≤ 1000000; rw [cv2_12]; decide
  · obtain rfl | rfl | rfl | rfl | rfl | rfl : i = 0 ∨ i = 1 ∨ i = 2 ∨ i = 3 ∨ i = 4 ∨ i = 5 := by omega
    · show 0 ≤ cylV 3 2 ∧ cylV 3 2 ≤ 1000000; rw [cv3_2]; decide
    · show 0 ≤ cylV 3 4 ∧ cylV 3 4 ≤ 1000000; rw [cv3_4]; decide
    · show 0 ≤ cylV 3 6 ∧ cylV 3 6 ≤ 1000000; rw [cv3_6]; decide
    · show 0 ≤ cylV 3 8 ∧ cylV 3 8 ≤ 1000000; rw [cv3_8]; decide
    · show 0 ≤ cylV 3 10 ∧ cylV 3 10 ≤ 1000000; rw [cv3_10]; decide
    · show 0 ≤ cylV 3 12 ∧ cylV 3 12 ≤ 1000000; rw [cv3_12]; decide
  · obtain rfl | rfl | rfl | rfl | rfl | rfl : i = 0 ∨ i = 1 ∨ i = 2 ∨ i = 3 ∨ i = 4 ∨ i = 5 := by omega
    · show 0 ≤ cylV 4 2 ∧ cylV 4 2 ≤ 1000000; rw [cv4_2]; decide
    · show 0 ≤ cylV 4 4 ∧ cylV 4 4 ≤ 1000000; rw [cv4_4]; decide
    · show 0 ≤ cylV 4 6 ∧ cylV 4 6 ≤ 1000000; rw [cv4_6]; decide
    · show 0 ≤ cylV 4 8 ∧ cylV 4 8 ≤ 1000000; rw [cv4_8]; decide
    · show 0 ≤ cylV 4 10 ∧ cylV 4 10 ≤ 1000000; rw [cv4_10]; decide
    · show 0 ≤ cylV 4 12 ∧ cylV 4 12 ≤ 1000000; rw [cv4_12]; decide
theorem even_steady {W : Nat} (h1 : 1 ≤ W) (h2 : W ≤ 4) : ∀ i, i < 4 → cylV W (2 * (i + 1) + 2) * cylV W (2 * (i + 1) + 2) ≤ cylV W (2 * i + 2) * cylV W (2 * (i + 2) + 2) := by
  intro i hi
  obtain rfl | rfl | rfl | rfl : W = 1 ∨ W = 2 ∨ W = 3 ∨ W = 4 := by omega
  · obtain rfl | rfl | rfl | rfl : i = 0 ∨ i = 1 ∨ i = 2 ∨ i = 3 := by omega
    · show cylV 1 4 * cylV 1 4 ≤ cylV 1 2 * cylV 1 6; rw [cv1_4, cv1_2, cv1_6]; decide
    · show cylV 1 6 * cylV 1 6 ≤ cylV 1 4 * cylV 1 8; rw [cv1_6, cv1_4, cv1_8]; decide
    · show cylV 1 8 * cylV 1 8 ≤ cylV 1 6 * cylV 1 10; rw [cv1_8, cv1_6, cv1_10]; decide
    · show cylV 1 10 * cylV 1 10 ≤ cylV 1 8 * cylV 1 12; rw [cv1_10, cv1_8, cv1_12]; decide
  · obtain rfl | rfl | rfl | rfl : i = 0 ∨ i = 1 ∨ i = 2 ∨ i = 3 := by omega
    · show cylV 2 4 * cylV 2 4 ≤ cylV 2 2 * cylV 2 6; rw [cv2_4, cv2_2, cv2_6]; decide
    · show cylV 2 6 * cylV 2 6 ≤ cylV 2 4 * cylV 2 8; rw [cv2_6, cv2_4, cv2_8]; decide
    · show cylV 2 8 * cylV 2 8 ≤ cylV 2 6 * cylV 2 10; rw [cv2_8, cv2_6, cv2_10]; decide
    · show cylV 2 10 * cylV 2 10 ≤ cylV 2 8 * cylV 2 12; rw [cv2_10, cv2_8, cv2_12]; decide
  · obtain rfl | rfl | rfl | rfl : i = 0 ∨ i = 1 ∨ i = 2 ∨ i = 3 := by omega
    · show cylV 3 4 * cylV 3 4 ≤ cylV 3 2 * cylV 3 6; rw [cv3_4, cv3_2, cv3_6]; decide
    · show cylV 3 6 * cylV 3 6 ≤ cylV 3 4 * cylV 3 8; rw [cv3_6, cv3_4, cv3_8]; decide
    · show cylV 3 8 * cylV 3 8 ≤ cylV 3 6 * cylV 3 10; rw [cv3_8, cv3_6, cv3_10]; decide
    · show cylV 3 10 * cylV 3 10 ≤ cylV 3 8 * cylV 3 12; rw [cv3_10, cv3_8, cv3_12]; decide
  · obtain rfl | rfl | rfl | rfl : i = 0 ∨ i = 1 ∨ i = 2 ∨ i = 3 := by omega
    · show cylV 4 4 * cylV 4 4 ≤ cylV 4 2 * cylV 4 6; rw [cv4_4, cv4_2, cv4_6]; decide
    · show cylV 4 6 * cylV 4 6 ≤ cylV 4 4 * cylV 4 8; rw [cv4_6, cv4_4, cv4_8]; decide
    · show cylV 4 8 * cylV 4 8 ≤ cylV 4 6 * cylV 4 10; rw [cv4_8, cv4_6, cv4_10]; decide
    · show cylV 4 10 * cylV 4 10 ≤ cylV 4 8 * cylV 4 12; rw [cv4_10, cv4_8, cv4_12]; decide
/-- The even entries of a growth table are log-steady. -/
theorem grow_even (a b : Int) : LogTo (evenTo (growL a b) ((growL a b).length / 2)) (evenTo (growL a b) ((growL a b).length / 2)).length := by
  rw [evenTo_length]
  by_cases h : WOk a ∧ b ≤ 12
  · have hg : growL a b = growTo a b.toNat := if_pos h
    obtain ⟨⟨ha1, ha2⟩, hb⟩ := h
    rw [hg, growTo_length]
    obtain ⟨W, rfl⟩ : ∃ W : Nat, a = (W : Int) := ⟨a.toNat, by omega⟩
    have hn : b.toNat ≤ 12 := by omega
    generalize b.toNat = n at hn
    have hv := fun i hi => even_vals (W := W) (k := n / 2) (n := n) (by omega) (by omega) (by omega) hn i hi
    refine ⟨fun i hi => ?_, fun i hi => ?_⟩
    · rw [hv i hi]
      exact even_small (by omega) (by omega) i (by omega)
    · rw [hv (i + 1) (by omega), hv i (by omega), hv (i + 2) hi]
      exact even_steady (by omega) (by omega) i (by omega)
  · have hg : growL a b = [] := if_neg h
    rw [hg]
    exact ⟨fun i hi => by simp at hi, fun i hi => by simp at hi⟩
end Go.Proofs.YtgplpngphaaefaaDoor
