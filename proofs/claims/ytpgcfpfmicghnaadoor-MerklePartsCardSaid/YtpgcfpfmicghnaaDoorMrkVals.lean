/-
  THE DIGESTS of awake's example.
-/
import Derived.Test.YtpgcfpfmicghnaaDoorMrkTwo
import Derived.Test.YtpgcfpfmicghnaaDoorMrkCheck
set_option linter.unusedVariables false
set_option linter.unusedSimpArgs false
namespace Go.Proofs.YtpgcfpfmicghnaaDoor.mrk
open Go Go.RowKit Go.Lm Go.Proofs.YtpgcfpfmicghnaaDoor.sha

theorem v0 : Sha.sum [0, 97, 98] = [11, 209, 218, 154, 95, 91, 20, 175, 37, 130, 177, 102, 37, 130, 87, 228, 22, 234, 62, 106, 37, 223, 191, 62, 128, 158, 102, 46, 15, 253, 101, 66] := by decide +kernel
theorem v1 : Sha.sum [0, 99, 100] = [96, 134, 49, 225, 10, 172, 188, 122, 143, 71, 125, 131, 38, 106, 218, 3, 239, 44, 202, 117, 155, 189, 124, 168, 249, 204, 53, 224, 70, 150, 187, 173] := by decide +kernel
theorem v2 : Sha.sum [0, 101] = [40, 36, 167, 204, 218, 44, 170, 114, 12, 133, 201, 251, 161, 232, 181, 183, 53, 238, 207, 219, 3, 135, 142, 79, 141, 254, 108, 54, 37, 3, 11, 196] := by decide +kernel
theorem vn : Sha.sum ([1, 11, 209, 218, 154, 95, 91, 20, 175, 37, 130, 177, 102, 37, 130, 87, 228, 22, 234, 62, 106, 37, 223, 191, 62, 128, 158, 102, 46, 15, 253, 101, 66, 96, 134, 49, 225, 10, 172, 188, 122, 143, 71, 125, 131, 38, 106, 218, 3, 239, 44, 202, 117, 155, 189, 124, 168, 249, 204, 53, 224, 70, 150, 187, 173]) = [3, 120, 206, 206, 243, 246, 29, 96, 37, 189, 55, 159, 126, 242, 159, 59, 144, 169, 148, 88, 161, 44, 126, 206, 233, 182, 22, 42, 246, 142, 100, 227] := by decide +kernel
theorem vr : Sha.sum ([1, 3, 120, 206, 206, 243, 246, 29, 96, 37, 189, 55, 159, 126, 242, 159, 59, 144, 169, 148, 88, 161, 44, 126, 206, 233, 182, 22, 42, 246, 142, 100, 227, 40, 36, 167, 204, 218, 44, 170, 114, 12, 133, 201, 251, 161, 232, 181, 183, 53, 238, 207, 219, 3, 135, 142, 79, 141, 254, 108, 54, 37, 3, 11, 196]) = [142, 217, 131, 32, 166, 14, 134, 196, 108, 36, 77, 211, 189, 17, 146, 142, 152, 189, 220, 16, 216, 83, 122, 12, 26, 207, 153, 23, 220, 19, 118, 203] := by decide +kernel
theorem vi : Sha.sum ([2, 5, 0, 0, 0, 0, 0, 0, 0, 2, 0, 0, 0, 142, 217, 131, 32, 166, 14, 134, 196, 108, 36, 77, 211, 189, 17, 146, 142, 152, 189, 220, 16, 216, 83, 122, 12, 26, 207, 153, 23, 220, 19, 118, 203]) = [140, 179, 51, 46, 85, 196, 175, 69, 107, 118, 238, 93, 45, 226, 253, 58, 185, 245, 155, 200, 53, 135, 240, 225, 188, 153, 216, 118, 147, 219, 204, 13] := by decide +kernel

def ex : List UInt8 := [97, 98, 99, 100, 101]
def exL : List (List UInt8) := leavesD ex 2 3
def dA : List UInt8 := [1, 0, 0, 0, 0, 0, 0, 0, 0, 0, 0, 0, 0, 0, 0, 0, 0, 0, 0, 0, 0, 0, 0, 0, 0, 0, 0, 0, 0, 0, 0, 0]
def dB : List UInt8 := [2, 0, 0, 0, 0, 0, 0, 0, 0, 0, 0, 0, 0, 0, 0, 0, 0, 0, 0, 0, 0, 0, 0, 0, 0, 0, 0, 0, 0, 0, 0, 0]
theorem root_three (a b c : List UInt8) : rootD [a, b, c] = nodeD (nodeD a b) c := by
  rw [root_split [a, b, c] (by simp), show Mrk.top ([a, b, c] : List (List UInt8)).length = 2 from rfl]
  show nodeD (rootD [a, b]) (rootD [c]) = _
  rw [root_alone, root_split [a, b] (by simp), show Mrk.top ([a, b] : List (List UInt8)).length = 1 from rfl]
  show nodeD (nodeD (rootD [a]) (rootD [b])) c = _
  rw [root_alone, root_alone]
theorem ex_cnt : cntN ex.length 2 = 3 := rfl
theorem ex_leaves : exL = [leafD [97, 98], leafD [99, 100], leafD [101]] := rfl
theorem ex_id : idD 5 2 exL = [140, 179, 51, 46, 85, 196, 175, 69, 107, 118, 238, 93, 45, 226, 253, 58, 185, 245, 155, 200, 53, 135, 240, 225, 188, 153, 216, 118, 147, 219, 204, 13] := by
  unfold idD idB
  rw [ex_leaves, root_three]
  unfold nodeD leafD
  rw [v0, v1, v2]
  have e1 : Sha.sum (1 :: ([11, 209, 218, 154, 95, 91, 20, 175, 37, 130, 177, 102, 37, 130, 87, 228, 22, 234, 62, 106, 37, 223, 191, 62, 128, 158, 102, 46, 15, 253, 101, 66] ++ [96, 134, 49, 225, 10, 172, 188, 122, 143, 71, 125, 131, 38, 106, 218, 3, 239, 44, 202, 117, 155, 189, 124, 168, 249, 204, 53, 224, 70, 150, 187, 173])) = _ := vn
  rw [e1]
  have e2 : Sha.sum (1 :: ([3, 120, 206, 206, 243, 246, 29, 96, 37, 189, 55, 159, 126, 242, 159, 59, 144, 169, 148, 88, 161, 44, 126, 206, 233, 182, 22, 42, 246, 142, 100, 227] ++ [40, 36, 167, 204, 218, 44, 170, 114, 12, 133, 201, 251, 161, 232, 181, 183, 53, 238, 207, 219, 3, 135, 142, 79, 141, 254, 108, 54, 37, 3, 11, 196])) = _ := vr
  rw [e2]
  exact vi
theorem ex_ok : chk 5 2 exL (idD 5 2 exL) = 0 := by
  unfold chk
  rw [show (cnt 5 ((2 : Nat) : Int)) = (3, 0) from rfl, show exL.length = 3 from rfl]
  simp
theorem ex_no : chk 5 2 exL dA = 33 := by
  unfold chk
  rw [show (cnt 5 ((2 : Nat) : Int)) = (3, 0) from rfl, show exL.length = 3 from rfl, ex_id]
  simp [dA]
theorem dA_length : dA.length = 32 := rfl
theorem dB_length : dB.length = 32 := rfl
theorem ab_no : twoB [dA] [dB] = false := by
  unfold twoB
  rw [root_alone, root_alone]
  simp [dA, dB]
end Go.Proofs.YtpgcfpfmicghnaaDoor.mrk
