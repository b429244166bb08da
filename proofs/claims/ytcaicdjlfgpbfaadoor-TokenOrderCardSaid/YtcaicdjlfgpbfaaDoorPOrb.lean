/-
  Plain functions: unicode.SimpleFold, from its tables; within four steps it comes back. (printed by genorb.py) No program is named here.
-/
import Derived.Lib.LaidCase
namespace Go.Proofs.YtcaicdjlfgpbfaaDoor
open Go.Lib
set_option linter.unusedVariables false

def orbL : List (Nat × Nat) := [(75, 107), (83, 115), (107, 8490), (115, 383), (181, 924), (197, 229), (223, 7838), (229, 8491), (304, 304), (305, 305), (383, 83), (452, 453), (453, 454), (454, 452), (455, 456), (456, 457), (457, 455), (458, 459), (459, 460), (460, 458), (497, 498), (498, 499), (499, 497), (837, 921), (912, 8147), (914, 946), (917, 949), (920, 952), (921, 953), (922, 954), (924, 956), (928, 960), (929, 961), (931, 962), (934, 966), (937, 969), (944, 8163), (946, 976), (949, 1013), (952, 977), (953, 8126), (954, 1008), (956, 181), (960, 982), (961, 1009), (962, 963), (963, 931), (966, 981), (969, 8486), (976, 914), (977, 1012), (981, 934), (982, 928), (1008, 922), (1009, 929), (1012, 920), (1013, 917), (1042, 1074), (1044, 1076), (1054, 1086), (1057, 1089), (1058, 1090), (1066, 1098), (1074, 7296), (1076, 7297), (1086, 7298), (1089, 7299), (1090, 7300), (1098, 7302), (1122, 1123), (1123, 7303), (7296, 1042), (7297, 1044), (7298, 1054), (7299, 1057), (7300, 7301), (7301, 1058), (7302, 1066), (7303, 1122), (7304, 42570), (7776, 7777), (7777, 7835), (7835, 7776), (7838, 223), (8126, 837), (8147, 912), (8163, 944), (8486, 937), (8490, 75), (8491, 197), (42570, 42571), (42571, 7304), (64261, 64262), (64262, 64261)]
def ascL : List Nat := [0, 1, 2, 3, 4, 5, 6, 7, 8, 9, 10, 11, 12, 13, 14, 15, 16, 17, 18, 19, 20, 21, 22, 23, 24, 25, 26, 27, 28, 29, 30, 31, 32, 33, 34, 35, 36, 37, 38, 39, 40, 41, 42, 43, 44, 45, 46, 47, 48, 49, 50, 51, 52, 53, 54, 55, 56, 57, 58, 59, 60, 61, 62, 63, 64, 97, 98, 99, 100, 101, 102, 103, 104, 105, 106, 107, 108, 109, 110, 111, 112, 113, 114, 115, 116, 117, 118, 119, 120, 121, 122, 91, 92, 93, 94, 95, 96, 65, 66, 67, 68, 69, 70, 71, 72, 73, 74, 8490, 76, 77, 78, 79, 80, 81, 82, 383, 84, 85, 86, 87, 88, 89, 90, 123, 124, 125, 126, 127]
def orbF (r : Int) : Option Int := (orbL.find? (fun p => (p.1 : Int) == r)).map (fun p => (p.2 : Int))
/-- SimpleFold -/
def foldR (r : Int) : Int :=
  if r < 0 ∨ 1114111 < r then r
  else if r < 128 then (ascL.getD r.toNat 0 : Nat)
  else match orbF r with
    | some t => t
    | none => if toW caseA 1 r ≠ r then toW caseA 1 r else toW caseA 0 r
def itF : Nat → Int → Int
  | 0, r => r
  | n + 1, r => itF n (foldR r)
/-- r comes back within four steps -/
def backB (r : Int) : Bool := itF 1 r == r || (itF 2 r == r || (itF 3 r == r || itF 4 r == r))
theorem back_ascii : ((List.range 128).all fun k => backB (k : Int)) = true := by decide +kernel
theorem back_orbit : (orbL.all fun p => backB (p.1 : Int)) = true := by decide +kernel
/-- the code points of a row of the table -/
def rowB (x : Nat × Nat × Int × Int × Int) : Bool := (List.range (x.2.1 - x.1 + 1)).all fun k => backB ((x.1 + k : Nat) : Int)
theorem back_rows0 : (((caseT.drop 0).take 20).all rowB) = true := by decide +kernel
theorem back_rows1 : (((caseT.drop 20).take 20).all rowB) = true := by decide +kernel
theorem back_rows2 : (((caseT.drop 40).take 20).all rowB) = true := by decide +kernel
theorem back_rows3 : (((caseT.drop 60).take 20).all rowB) = true := by decide +kernel
theorem back_rows4 : (((caseT.drop 80).take 20).all rowB) = true := by decide +kernel
theorem back_rows5 : (((caseT.drop 100).take 20).all rowB) = true := by decide +kernel
theorem back_rows6 : (((caseT.drop 120).take 20).all rowB) = true := by decide +kernel
theorem back_rows7 : (((caseT.drop 140).take 20).all rowB) = true := by decide +kernel
theorem back_rows8 : (((caseT.drop 160).take 20).all rowB) = true := by decide +kernel
theorem back_rows9 : (((caseT.drop 180).take 20).all rowB) = true := by decide +kernel
theorem back_rows10 : (((caseT.drop 200).take 20).all rowB) = true := by decide +kernel
theorem back_rows11 : (((caseT.drop 220).take 20).all rowB) = true := by decide +kernel
theorem back_rows12 : (((caseT.drop 240).take 20).all rowB) = true := by decide +kernel
theorem back_rows13 : (((caseT.drop 260).take 20).all rowB) = true := by decide +kernel
theorem back_rows14 : (((caseT.drop 280).take 20).all rowB) = true := by decide +kernel
theorem back_rows15 : (((caseT.drop 300).take 20).all rowB) = true := by decide +kernel
theorem back_rows16 : (((caseT.drop 320).take 20).all rowB) = true := by decide +kernel
theorem back_rows17 : (((caseT.drop 340).take 20).all rowB) = true := by decide +kernel
theorem back_rows18 : (((caseT.drop 360).take 20).all rowB) = true := by decide +kernel
theorem back_rows19 : (((caseT.drop 380).take 20).all rowB) = true := by decide +kernel

end Go.Proofs.YtcaicdjlfgpbfaaDoor
