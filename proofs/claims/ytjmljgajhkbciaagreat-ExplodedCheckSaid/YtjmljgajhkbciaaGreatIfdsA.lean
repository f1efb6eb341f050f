/- The knobs of the evaluator for the functions about IFDS. The tables are printed by tools/Cfg.lean. -/
import Derived.Test.YtjmljgajhkbciaaGreatCanV
import Derived.Test.YtjmljgajhkbciaaGreatRows
import Derived.Sort.Defs
import Derived.Lib.BitFns
set_option linter.unusedSimpArgs false
set_option linter.unusedVariables false
namespace Go.Can
open Go Go.Proofs

def cfVars : FuncId → List Tmp
  | 3 => [2]
  | 4 => [2, 3]
  | 5 => [2]
  | 6 => [1]
  | 7 => [2]
  | 8 => [2]
  | 11 => [2, 3]
  | 12 => [2, 3]
  | 13 => [2]
  | 14 => [2]
  | 15 => [1, 8]
  | 16 => [3, 7]
  | 17 => [2]
  | 18 => [1, 7]
  | 19 => [3, 7]
  | 20 => [2]
  | 21 => [0, 1]
  | 23 => [2, 7]
  | 24 => [4]
  | 26 => [2]
  | 27 => [4]
  | 28 => [2]
  | 30 => [2]
  | 32 => [1]
  | 33 => [6]
  | 36 => [3, 6, 8]
  | 37 => [8]
  | 38 => [1, 5]
  | 40 => [2, 3]
  | 41 => [3, 6, 8]
  | 44 => [3]
  | 49 => [5]
  | 51 => [2, 3]
  | 52 => [1, 3, 5]
  | 53 => [2, 5]
  | 56 => [2, 3]
  | 58 => [2, 4]
  | 59 => [2, 3]
  | 60 => [2, 3, 4]
  | 63 => [1, 4]
  | 64 => [2, 3]
  | 65 => [2, 3, 5, 6, 7]
  | 66 => [2]
  | 67 => [2, 3]
  | 68 => [2, 4]
  | 69 => [3, 4, 6, 8]
  | 70 => [3]
  | 74 => [2, 3]
  | 77 => [2, 3]
  | 78 => [2, 3, 5, 6, 8]
  | 79 => [1]
  | 82 => [2, 3]
  | 83 => [2]
  | 84 => [2]
  | 85 => [3, 8]
  | 97 => [3, 9]
  | 98 => [3]
  | 112 => [4]
  | 113 => [2, 3]
  | _ => []

def cfKeep : FuncId → List Tmp
  | 3 => [0, 1, 2, 4, 5, 6, 7, 8, 16]
  | 4 => [0, 1, 2, 3, 4, 13]
  | 5 => [0, 1, 2, 4, 5, 6, 7, 8, 9, 17, 21, 29]
  | 6 => [0, 1, 2, 3, 32, 37, 46]
  | 7 => [0, 1, 2, 4, 5, 6, 7, 11, 21]
  | 8 => [0, 1, 2, 4, 5, 6, 7, 11, 21]
  | 9 => [0, 1, 4, 5, 10, 14, 25]
  | 10 => [0, 1, 2, 27]
  | 11 => [0, 1, 2, 3, 4, 5, 6, 8, 9, 10, 14, 23, 33, 36, 37, 38, 39, 49, 68, 70, 71, 72, 73, 91]
  | 12 => [0, 1, 2, 3, 4, 5, 6, 7, 8, 12, 21, 31, 37, 55, 73, 78, 99]
  | 13 => [0, 1, 2, 4, 5, 6, 7, 9, 10, 14, 16, 17, 18, 19, 30, 42]
  | 14 => [0, 1, 2, 4, 5, 6, 7, 8, 9, 13, 18, 32, 47]
  | 15 => [0, 1, 2, 3, 5, 6, 7, 8, 13, 22, 30, 32, 33, 34, 35, 43, 47, 48, 49, 50, 77, 104]
  | 16 => [0, 1, 2, 3, 6, 8]
  | 17 => [0, 1, 2, 4, 5, 7, 15, 16, 17, 18]
  | 18 => [0, 1, 2, 3, 4, 5, 6, 7, 12, 21, 29, 34, 46, 52, 83, 96]
  | 19 => [0, 1, 2, 3, 6, 8]
  | 20 => [0, 1, 2, 4, 5, 6, 16]
  | 21 => [0, 1]
  | 22 => [0, 1, 4]
  | 23 => [0, 1, 2, 4, 5, 7, 9, 10, 11, 12, 18]
  | 24 => [0, 1, 2, 3, 4, 8, 17]
  | 25 => [0, 1, 4, 5, 9, 17]
  | 26 => [0, 1, 2, 4, 5, 6, 11, 21]
  | 27 => [0, 1, 2, 3, 4, 8, 9, 17, 43]
  | 28 => [0, 1, 2, 4, 7]
  | 29 => [0, 2, 3]
  | 30 => [0, 1, 2, 4, 7]
  | 31 => [0, 1, 4, 5, 6, 7, 11, 23]
  | 32 => [0, 1, 2, 3, 4, 5, 6, 16, 21, 43, 48, 53, 54, 55, 61]
  | 33 => [0, 1, 4, 5, 6, 7, 11, 15, 16, 17, 18, 33, 45, 56]
  | 34 => [0, 2, 3, 5, 6, 7, 8, 9, 14]
  | 35 => [0, 1, 4, 5, 6, 11, 12, 13, 16, 19]
  | 36 => [0, 1, 2, 3, 6, 7, 8, 9, 11, 19, 24, 26, 27, 28, 29, 32, 43, 54]
  | 37 => [0, 1, 4, 5, 6, 8, 10, 15, 16, 17, 18, 23, 36]
  | 38 => [0, 1, 2, 3, 4, 5, 6, 16, 20, 26, 42, 67, 76, 100, 114]
  | 39 => [0, 1, 4, 5, 6, 12, 15, 19, 28, 43, 62]
  | 40 => [0, 1, 2, 3, 4]
  | 41 => [0, 1, 2, 3, 6, 7, 8, 9, 10, 18, 23, 28, 42]
  | 42 => [0, 1, 4, 5, 6, 10, 35]
  | 43 => [0, 1, 4, 5, 7, 8, 9, 16]
  | 44 => [0, 1, 3, 4]
  | 45 => [0, 2, 3, 5, 6, 8, 9, 10, 11, 12, 20, 25, 26, 27, 28]
  | 46 => [0, 2]
  | 47 => [0, 2, 3, 4, 5, 8, 13, 25, 32, 44]
  | 48 => [0, 1, 4, 5, 6, 7, 11, 19, 30, 43]
  | 49 => [0, 2, 3, 4, 5, 7, 9, 10, 11, 12, 16, 25, 49, 64, 77, 79, 83]
  | 50 => [0, 1, 4, 5, 10, 24]
  | 51 => [0, 1, 2, 3, 4]
  | 52 => [0, 1, 2, 3, 4, 5, 6, 17, 18, 19, 20, 45, 47]
  | 53 => [0, 1, 2, 4, 5, 6, 7, 35, 43, 52, 74, 88]
  | 54 => [0, 2]
  | 55 => [0, 1, 4]
  | 56 => [0, 1, 2, 3, 4]
  | 57 => [0, 2]
  | 58 => [0, 1, 2, 4, 5, 6, 10, 21]
  | 59 => [0, 1, 2, 3, 4, 5]
  | 60 => [0, 1, 2, 3, 4, 5, 9, 25]
  | 61 => [0, 2, 4]
  | 62 => [0, 1, 4, 5, 6, 7, 8, 9, 15, 27]
  | 63 => [0, 1, 2, 3, 4, 5, 6, 7, 8, 13, 21, 30, 54, 72, 98, 119]
  | 64 => [0, 1, 2, 3, 4, 9, 19, 29]
  | 65 => [0, 1, 2, 3, 4, 5, 6, 7, 21, 22, 55, 95]
  | 66 => [0, 1, 2, 4]
  | 67 => [0, 1, 2, 3, 4]
  | 68 => [0, 1, 2, 4, 5, 6, 10, 21]
  | 69 => [0, 1, 2, 3, 4, 6, 7, 8, 9, 18, 29, 32, 33, 46, 64]
  | 70 => [0, 1, 3, 4, 5, 7, 8, 9, 16]
  | 71 => [0, 1, 4, 6, 16]
  | 72 => [0, 1, 2, 3, 8, 9, 10, 11, 12, 13, 14, 15, 16, 17, 18, 23, 29, 35, 50, 68, 72, 87, 113]
  | 73 => [0, 2]
  | 74 => [0, 1, 2, 3, 4]
  | 75 => [0, 2, 4]
  | 76 => [0, 1, 4]
  | 77 => [0, 1, 2, 3, 4]
  | 78 => [0, 1, 2, 3, 4, 5, 6, 7, 8, 22, 23, 33, 54, 73]
  | 79 => [0, 1, 2]
  | 80 => [0, 1, 4]
  | 81 => [0, 2]
  | 82 => [0, 1, 2, 3, 4, 9, 19]
  | 83 => [0, 1, 2, 4, 5]
  | 84 => [0, 1, 2, 4]
  | 85 => [0, 1, 2, 3, 6, 7, 8, 13, 63]
  | 86 => [0, 1, 2, 6, 7, 12, 30]
  | 87 => [0, 1, 2, 6, 7, 8, 9, 10, 19, 30]
  | 88 => [0, 1, 2, 6, 7, 8, 9, 10, 15, 33, 43]
  | 89 => [0, 1, 2, 6, 7, 8, 9, 10, 11, 12, 32, 34, 49, 51, 54]
  | 90 => [0, 1, 2, 6, 7, 13]
  | 91 => [0, 1, 2, 6, 7, 8, 9, 10, 14, 32, 37, 41, 61, 65, 78, 98, 103, 116]
  | 92 => [0, 1, 2, 3, 8, 9, 10, 43, 59, 64]
  | 93 => [0, 1, 2, 3, 8, 9, 10, 11, 43, 60, 65, 112, 129, 134]
  | 94 => [0, 2, 4, 8]
  | 95 => [0, 2, 4, 8, 14]
  | 96 => [0, 1, 2, 3, 4, 10, 11, 12, 13, 14, 15, 16, 17, 18, 19, 20, 25, 32, 39, 56, 75, 80, 97, 125]
  | 97 => [0, 1, 2, 3, 6, 7, 9, 32, 76]
  | 98 => [0, 1, 2, 3, 6, 7, 12, 32]
  | 99 => [0, 1, 2, 3, 8, 9, 16, 36, 52]
  | 100 => [0, 2]
  | 101 => [0, 2]
  | 102 => [0, 1, 2, 6]
  | 103 => [0, 1, 2, 3, 4, 10]
  | 104 => [0, 1, 2, 3, 8, 9, 14, 34]
  | 105 => [0, 1, 2, 3, 8, 9, 10, 11, 12, 21, 33]
  | 106 => [0, 1, 2, 8, 9, 10, 11, 12, 17, 35, 45]
  | 107 => [0, 1, 2, 3, 8, 9, 10, 11, 12, 13, 14, 34, 36, 55, 57, 60]
  | 108 => [0, 1, 2, 8, 9, 15]
  | 109 => [0, 1, 2, 3, 8, 9, 10, 11, 12, 16, 36, 41, 45, 65, 69, 84, 104, 109, 124]
  | 110 => [0, 1, 2, 3, 4, 10, 11, 12, 47, 65, 70]
  | 111 => [0, 1, 2, 3, 4, 10, 11, 12, 13, 47, 66, 71, 120, 139, 144]
  | 112 => [0, 1, 2, 4, 6, 7, 8, 9, 10, 11, 17, 31]
  | 113 => [0, 1, 2, 3, 4]
  | 114 => [0, 1, 2, 3, 8, 9, 18]
  | 115 => [0, 1, 2, 3, 4, 10, 11, 18, 40, 58]
  | 116 => [0, 1, 2, 3, 8]
  | 117 => [0, 1, 2, 3, 4, 5, 12]
  | 118 => [0, 1, 2, 3, 4, 10, 11, 22]
  | _ => []

def cfLive : FuncId → Nat → List Tmp
  | 5, 4 => [1, 2, 5]
  | 6, 4 => [1, 3]
  | 9, 4 => [0, 1, 5]
  | 11, 10 => [2, 3, 36, 37, 38]
  | 11, 18 => [2, 3, 70, 71, 72]
  | 12, 10 => [2, 3, 7]
  | 12, 17 => [2, 3, 8]
  | 13, 6 => [1, 2, 7, 16, 17, 18]
  | 14, 6 => [1, 2, 7, 8]
  | 15, 9 => [1, 32, 33, 34]
  | 15, 16 => [1, 47, 48, 49]
  | 17, 3 => [2, 5, 15, 16, 17]
  | 18, 9 => [1, 4]
  | 18, 15 => [1, 6]
  | 20, 3 => [1, 2, 5, 6]
  | 23, 3 => [1, 5, 9, 10, 11]
  | 25, 2 => [0, 1, 5]
  | 26, 3 => [1, 2, 5, 6]
  | 27, 2 => [1, 2, 3, 4, 9]
  | 31, 3 => [0, 1, 5, 6]
  | 31, 7 => [1, 5, 7]
  | 32, 12 => [1, 53, 54]
  | 33, 6 => [0, 1, 15, 16, 17]
  | 34, 3 => [3, 6, 7, 8]
  | 36, 7 => [3, 6, 8, 26, 27, 28]
  | 37, 5 => [5, 6, 15, 16, 17]
  | 38, 7 => [1, 4]
  | 39, 7 => [0, 1, 5, 6]
  | 41, 7 => [2, 3, 6, 8, 10]
  | 42, 3 => [0, 1, 5, 6]
  | 43, 2 => [0, 1, 7, 8]
  | 45, 3 => [0, 3, 9, 10, 11]
  | 45, 11 => [6, 25, 26, 27]
  | 47, 4 => [0, 3]
  | 47, 9 => [0, 3, 4, 5]
  | 48, 4 => [0, 1, 5, 6, 7]
  | 49, 3 => [0, 3, 9, 10, 11]
  | 49, 16 => [77]
  | 50, 2 => [0, 1, 5]
  | 52, 4 => [1, 3, 17, 18, 19]
  | 62, 3 => [0, 1, 6, 7, 8]
  | 63, 2 => [1, 3]
  | 63, 12 => [1, 5]
  | 70, 2 => [0, 3, 7, 8]
  | 72, 2 => [0, 1, 2, 3, 8, 9]
  | 85, 2 => [1, 2, 3, 7]
  | 86, 1 => [0, 1, 2, 6]
  | 86, 4 => [0, 1, 2, 6, 7]
  | 87, 4 => [0, 6, 7, 8, 9]
  | 87, 8 => [0, 6, 7, 10]
  | 88, 5 => [0, 1, 6, 7, 8, 9]
  | 90, 2 => [0, 6, 7]
  | 91, 3 => [0, 1, 2, 7, 8]
  | 91, 5 => [0, 1, 2, 7, 8]
  | 91, 14 => [0, 1, 2, 7, 8, 9]
  | 91, 20 => [0, 1, 2, 7, 8, 10]
  | 92, 3 => [0, 1, 9, 10]
  | 92, 5 => [0, 1, 9, 10]
  | 93, 3 => [0, 1, 10, 11]
  | 93, 5 => [0, 1, 10, 11]
  | 93, 13 => [0, 1, 10, 11]
  | 93, 15 => [0, 1, 10, 11]
  | 96, 2 => [0, 1, 2, 3, 4, 10, 11]
  | 97, 2 => [1, 2, 3, 7]
  | 98, 2 => [1, 2, 3, 7]
  | 99, 1 => [0, 2, 3, 8]
  | 104, 1 => [0, 1, 2, 3, 8]
  | 104, 4 => [0, 1, 2, 3, 8, 9]
  | 105, 4 => [0, 3, 8, 9, 10, 11]
  | 105, 8 => [0, 3, 8, 9, 12]
  | 106, 5 => [0, 1, 8, 9, 10, 11]
  | 108, 2 => [0, 8, 9]
  | 109, 3 => [0, 1, 2, 3, 9, 10]
  | 109, 5 => [0, 1, 2, 3, 9, 10]
  | 109, 14 => [0, 1, 2, 3, 9, 10, 11]
  | 109, 20 => [0, 1, 2, 3, 9, 10, 12]
  | 110, 3 => [0, 1, 4, 11, 12]
  | 110, 5 => [0, 1, 4, 11, 12]
  | 111, 3 => [0, 1, 4, 12, 13]
  | 111, 5 => [0, 1, 4, 12, 13]
  | 111, 13 => [0, 1, 4, 12, 13]
  | 111, 15 => [0, 1, 4, 12, 13]
  | 112, 3 => [0, 2, 4, 8, 9, 10]
  | 115, 1 => [0, 2, 3, 4, 10]
  | _, _ => []

def cfOut : FuncId → Nat → Nat → List Tmp
  | 5, 4, 0 => [1, 2]
  | 6, 4, 0 => []
  | 9, 4, 0 => []
  | 11, 10, 0 => [2, 3]
  | 11, 18, 2 => []
  | 12, 10, 0 => [2, 3]
  | 12, 17, 2 => []
  | 13, 6, 0 => [7]
  | 14, 6, 0 => [7]
  | 15, 9, 0 => [1]
  | 15, 16, 2 => []
  | 17, 3, 0 => [5]
  | 18, 9, 0 => [1]
  | 18, 15, 2 => []
  | 20, 3, 0 => [5]
  | 23, 3, 0 => [5]
  | 25, 2, 0 => []
  | 26, 3, 0 => [5]
  | 27, 2, 0 => [1, 2, 3, 4]
  | 31, 3, 0 => [1, 5]
  | 31, 7, 2 => [5]
  | 32, 12, 0 => []
  | 33, 6, 1 => [0]
  | 34, 3, 0 => [3]
  | 36, 7, 0 => [6, 8]
  | 37, 5, 0 => [6]
  | 38, 7, 0 => []
  | 39, 7, 0 => [5]
  | 41, 7, 0 => [6, 8]
  | 42, 3, 0 => [5]
  | 43, 2, 0 => []
  | 45, 3, 0 => [0, 3]
  | 45, 11, 2 => [6]
  | 47, 4, 0 => [0]
  | 47, 9, 2 => [0, 3]
  | 47, 9, 1 => [0, 3]
  | 47, 9, 0 => [0]
  | 48, 4, 0 => [1, 5, 6]
  | 49, 3, 0 => [3]
  | 49, 16, 3 => []
  | 50, 2, 0 => []
  | 52, 4, 0 => []
  | 62, 3, 0 => [0, 1, 6, 7]
  | 63, 2, 0 => [1]
  | 63, 12, 3 => [1]
  | 70, 2, 0 => []
  | 72, 2, 0 => []
  | 85, 2, 0 => []
  | 86, 1, 0 => []
  | 86, 4, 2 => [0, 1, 2, 6]
  | 86, 4, 1 => [0, 1, 2, 6]
  | 86, 4, 0 => []
  | 87, 4, 0 => [0, 6, 7, 8]
  | 87, 8, 2 => []
  | 88, 5, 0 => []
  | 90, 2, 0 => []
  | 91, 3, 0 => []
  | 91, 5, 2 => [0, 1, 2, 7, 8]
  | 91, 5, 1 => [0, 1, 2, 7, 8]
  | 91, 5, 0 => []
  | 91, 14, 4 => [0, 1, 2, 7, 8]
  | 91, 14, 1 => [0, 1, 2, 7, 8]
  | 91, 14, 0 => []
  | 91, 20, 6 => [0, 1, 2, 7, 8]
  | 91, 20, 1 => [0, 1, 2, 7, 8]
  | 91, 20, 0 => []
  | 92, 3, 0 => [9]
  | 92, 3, 2 => [0, 1, 9, 10]
  | 92, 3, 1 => [0, 1, 9, 10]
  | 92, 5, 4 => [0, 1, 9, 10]
  | 92, 5, 1 => [0, 1, 9, 10]
  | 92, 5, 0 => [9]
  | 93, 3, 0 => [0, 1, 10, 11]
  | 93, 5, 2 => [0, 1, 10, 11]
  | 93, 13, 4 => [0, 1, 11]
  | 93, 13, 6 => [0, 1, 10, 11]
  | 93, 13, 5 => [0, 1, 10, 11]
  | 93, 15, 8 => [0, 1, 10, 11]
  | 93, 15, 5 => [0, 1, 10, 11]
  | 93, 15, 4 => [0, 1, 11]
  | 96, 2, 0 => []
  | 97, 2, 0 => []
  | 98, 2, 0 => []
  | 99, 1, 0 => []
  | 104, 1, 0 => []
  | 104, 4, 2 => [0, 1, 2, 3, 8]
  | 104, 4, 1 => [0, 1, 2, 3, 8]
  | 104, 4, 0 => []
  | 105, 4, 0 => [0, 3, 8, 9, 10]
  | 105, 8, 2 => []
  | 106, 5, 0 => []
  | 108, 2, 0 => []
  | 109, 3, 0 => []
  | 109, 5, 2 => [0, 1, 2, 3, 9, 10]
  | 109, 5, 1 => [0, 1, 2, 3, 9, 10]
  | 109, 5, 0 => []
  | 109, 14, 4 => [0, 1, 2, 3, 9, 10]
  | 109, 14, 1 => [0, 1, 2, 3, 9, 10]
  | 109, 14, 0 => []
  | 109, 20, 6 => [0, 1, 2, 3, 9, 10]
  | 109, 20, 1 => [0, 1, 2, 3, 9, 10]
  | 109, 20, 0 => []
  | 110, 3, 0 => [11]
  | 110, 3, 2 => [0, 1, 4, 11, 12]
  | 110, 3, 1 => [0, 1, 4, 11, 12]
  | 110, 5, 4 => [0, 1, 4, 11, 12]
  | 110, 5, 1 => [0, 1, 4, 11, 12]
  | 110, 5, 0 => [11]
  | 111, 3, 0 => [0, 1, 4, 12, 13]
  | 111, 5, 2 => [0, 1, 4, 12, 13]
  | 111, 13, 4 => [0, 1, 13]
  | 111, 13, 6 => [0, 1, 4, 12, 13]
  | 111, 13, 5 => [0, 1, 4, 12, 13]
  | 111, 15, 8 => [0, 1, 4, 12, 13]
  | 111, 15, 5 => [0, 1, 4, 12, 13]
  | 111, 15, 4 => [0, 1, 13]
  | 112, 3, 0 => [0, 2, 4, 8, 9]
  | 115, 1, 0 => []
  | _, _, _ => []

def cfRes : FuncId → List Tmp
  | 3 => [4]
  | 4 => [4]
  | 5 => [4]
  | 6 => [2]
  | 7 => [4, 5]
  | 8 => [4, 5]
  | 9 => [4]
  | 10 => [0]
  | 11 => [4]
  | 12 => [4]
  | 13 => [4, 5]
  | 14 => [4, 5]
  | 15 => [2]
  | 16 => [6]
  | 17 => [4]
  | 18 => [2]
  | 19 => [6]
  | 20 => [4]
  | 21 => [0]
  | 22 => [4]
  | 23 => [4]
  | 24 => [8]
  | 25 => [4]
  | 26 => [4]
  | 27 => [8]
  | 28 => [4]
  | 29 => [2]
  | 30 => [4]
  | 31 => [4]
  | 32 => [2]
  | 33 => [4]
  | 34 => [2]
  | 35 => [4]
  | 36 => [6, 7]
  | 37 => [4]
  | 38 => [2]
  | 39 => [4]
  | 40 => [4]
  | 41 => [6, 7]
  | 42 => [4]
  | 43 => [4]
  | 44 => [4]
  | 45 => [2]
  | 47 => [2]
  | 48 => [4]
  | 49 => [2]
  | 50 => [4]
  | 51 => [4]
  | 52 => [2]
  | 53 => [4]
  | 54 => [2]
  | 55 => [4]
  | 56 => [4]
  | 57 => [2]
  | 58 => [4, 5]
  | 59 => [4]
  | 60 => [4]
  | 61 => [2]
  | 62 => [4, 5]
  | 63 => [2]
  | 64 => [4]
  | 65 => [4]
  | 66 => [4]
  | 67 => [4]
  | 68 => [4, 5]
  | 69 => [6, 7]
  | 70 => [4]
  | 71 => [4]
  | 73 => [2]
  | 74 => [4]
  | 75 => [2]
  | 77 => [4]
  | 78 => [4]
  | 79 => [2]
  | 80 => [4]
  | 81 => [2]
  | 82 => [4]
  | 83 => [4, 5]
  | 84 => [4]
  | 85 => [6]
  | 89 => [6, 7]
  | 91 => [6]
  | 92 => [8]
  | 93 => [8, 9]
  | 94 => [2]
  | 95 => [2]
  | 97 => [6]
  | 98 => [6]
  | 100 => [2]
  | 101 => [2]
  | 102 => [6]
  | 103 => [10]
  | 107 => [8, 9]
  | 109 => [8]
  | 110 => [10]
  | 111 => [10, 11]
  | 112 => [6, 7]
  | 113 => [4]
  | 114 => [8, 9]
  | 116 => [8]
  | 117 => [12]
  | 118 => [10, 11]
  | _ => []

def impure : List FuncId := [46, 47, 72, 75, 76, 86, 87, 88, 89, 90, 91, 92, 93, 99, 101, 102, 103, 45, 61, 114, 71]
def cfPure (f : FuncId) : Bool := !impure.contains f

def cfGrow : FuncId → Bool
  | 75 | 45 | 61 | 71 => true
  | _ => false

def liveW (f : FuncId) (r : Option Nat) (o : Option Out) : List Tmp := match r, o with
  | some r, none => cfLive f r
  | some _, some .ret => cfRes f
  | some r, some (.exit i) => cfOut f r i
  | _, _ => []

def nodeOf : AV → Option (Int × Int × Int)
  | .agg [.int .i64 a, .int .i64 b, .int .i64 c] => some (a, b, c)
  | _ => none

def nodesOf : List AV → Option (List (Int × Int × Int))
  | [] => some []
  | x :: xs => match nodeOf x, nodesOf xs with
    | some a, some l => some (a :: l)
    | _, _ => none

def nodeA (n : Int × Int × Int) : AV := .agg [.int .i64 n.1, .int .i64 n.2.1, .int .i64 n.2.2]
def edgeA (e : Int × Int × Int × Int) : AV := .agg [.int .i64 e.1, .int .i64 e.2.1, .int .i64 e.2.2.1, .int .i64 e.2.2.2]

def cmpI (a b : Int) : Int := if a < b then -1 else if a > b then 1 else 0
def orI : List Int → Int
  | [] => 0
  | x :: xs => if x = 0 then orI xs else x
def cmpN (a b : Int × Int × Int) : Int := orI [cmpI a.1 b.1, cmpI a.2.1 b.2.1, cmpI a.2.2 b.2.2]
def cmpE (a b : Int × Int × Int × Int) : Int := orI [cmpI a.1 b.1, cmpI a.2.1 b.2.1, cmpI a.2.2.1 b.2.2.1, cmpI a.2.2.2 b.2.2.2]

/-- The error of a node behind another one. -/
def nodeErr (p : Option (Int × Int × Int)) (n : Int × Int × Int) : Int :=
  if n.2.1 < 1 then 12 else if n.2.1 > 4 then 12 else if n.1 < 0 then 4
  else if n.2.1 = 2 then (if n.2.2 < 0 then 4 else match p with
    | some q => if cmpN q n ≥ 0 then 13 else 0
    | none => 0)
  else if n.2.2 = -1 then (match p with
    | some q => if cmpN q n ≥ 0 then 13 else 0
    | none => 0)
  else 4
def scanN : Option (Int × Int × Int) → List (Int × Int × Int) → Int
  | _, [] => 0
  | p, n :: l => if nodeErr p n = 0 then scanN (some n) l else nodeErr p n
/-- The nodes of a function that are no instructions. -/
def cntN (l : List (Int × Int × Int)) (f : Int) : Nat := (l.filter fun m => decide (m.1 = f) && !decide (m.2.1 = 2)).length
def errNodes (l : List (Int × Int × Int)) : Int := if scanN none l = 0 then (if l.all fun n => cntN l n.1 == 3 then 0 else 1) else scanN none l

def nodesP : List AV → St → Nat → Option (AV × St)
  | [.list _ 3 xs], σ, _ => match nodesOf xs with
    | some l => some (.int .i64 (errNodes l), σ)
    | none => none
  | _, _, _ => none

def edgeOf : AV → Option (Int × Int × Int × Int)
  | .agg [.int .i64 a, .int .i64 b, .int .i64 c, .int .i64 d] => some (a, b, c, d)
  | _ => none
def edgesOf : List AV → Option (List (Int × Int × Int × Int))
  | [] => some []
  | x :: xs => match edgeOf x, edgesOf xs with
    | some a, some l => some (a :: l)
    | _, _ => none
/-- The order that the library's sort makes. -/
def sortE (l : List (Int × Int × Int × Int)) : List (Int × Int × Int × Int) := (Go.Sort.pdq (fun x y => decide (cmpE x y < 0)) l.toArray 0 l.length (Go.Lib.bitLen l.length) true true).toList

/-- slices.SortFunc of edges by super.compareEdges. -/
def sortP : List AV → St → Nat → Option (AV × St)
  | [.row 4 id gen 0 len false, .fn 77 [] []], σ, base => match σ[id]? with
    | some (.row 4 xs) => if base ≤ id ∧ gen = xs.length ∧ len = xs.length ∧ 0 < xs.length ∧ xs.length < 4611686018427387904 then match edgesOf xs with
      | some l => some (.tup [], σ.set id (.row 4 ((sortE l).map edgeA)))
      | none => none
      else none
    | _ => none
  | _, _, _ => none

/-- The number of bits of a small number. -/
def lenP : List AV → St → Nat → Option (AV × St)
  | [.int .u64 0], σ, _ => some (.int .i64 0, σ)
  | [.int .u64 1], σ, _ => some (.int .i64 1, σ)
  | [.int .u64 2], σ, _ => some (.int .i64 2, σ)
  | _, _, _ => none

def intsOf : List AV → Option (List Int)
  | [] => some []
  | .int .i64 q :: xs => (intsOf xs).map (q :: ·)
  | _ :: _ => none

/-- slices.Clone of a list of numbers. -/
def cloneP : List AV → St → Nat → Option (AV × St)
  | [.list _ _ []], σ, _ => some (.list false 0 [], σ)
  | [.list _ 1 (x :: xs)], σ, _ => match intsOf (x :: xs) with
    | some l => if l.length * 8 ≤ 140737488355328 then some (.row 1 σ.length (x :: xs).length 0 (x :: xs).length false, σ ++ [.row 1 (x :: xs)]) else none
    | none => none
  | _, _, _ => none

/-- slices.Grow of nothing. -/
def growP : List AV → St → Nat → Option (AV × St)
  | [.list true s [], .int .i64 n], σ, _ =>
    if n = 0 then some (.list true s [], σ)
    else if 0 < n ∧ n * 8 ≤ 140737488355328 then some (.row 1 σ.length n.toNat 0 0 false, σ ++ [.row 1 (List.replicate n.toNat (.int .i64 0))])
    else none
  | _, _, _ => none

def cfI : Cfg where
  vars := cfVars
  keep := cfKeep
  live := fun f c o => liveW f (regOf c) o
  pure := cfPure
  grow := cfGrow
  prim := fun | 49 => some nodesP | 73 => some lenP | 76 => some sortP | 61 => some cloneP | 71 => some growP | _ => none

@[go_sem] theorem cfVars_15 : cfVars 15 = [1, 8] := by kernel_rfl
@[go_sem] theorem cfVars_18 : cfVars 18 = [1, 7] := by kernel_rfl
@[go_sem] theorem cfVars_32 : cfVars 32 = [1] := by kernel_rfl
@[go_sem] theorem cfVars_33 : cfVars 33 = [6] := by kernel_rfl
@[go_sem] theorem cfVars_38 : cfVars 38 = [1, 5] := by kernel_rfl
@[go_sem] theorem cfVars_40 : cfVars 40 = [2, 3] := by kernel_rfl
@[go_sem] theorem cfVars_49 : cfVars 49 = [5] := by kernel_rfl
@[go_sem] theorem cfVars_51 : cfVars 51 = [2, 3] := by kernel_rfl
@[go_sem] theorem cfVars_52 : cfVars 52 = [1, 3, 5] := by kernel_rfl
@[go_sem] theorem cfVars_53 : cfVars 53 = [2, 5] := by kernel_rfl
@[go_sem] theorem cfVars_56 : cfVars 56 = [2, 3] := by kernel_rfl
@[go_sem] theorem cfVars_63 : cfVars 63 = [1, 4] := by kernel_rfl
@[go_sem] theorem cfVars_64 : cfVars 64 = [2, 3] := by kernel_rfl
@[go_sem] theorem cfVars_65 : cfVars 65 = [2, 3, 5, 6, 7] := by kernel_rfl
@[go_sem] theorem cfVars_66 : cfVars 66 = [2] := by kernel_rfl
@[go_sem] theorem cfVars_67 : cfVars 67 = [2, 3] := by kernel_rfl
@[go_sem] theorem cfVars_74 : cfVars 74 = [2, 3] := by kernel_rfl
@[go_sem] theorem cfVars_77 : cfVars 77 = [2, 3] := by kernel_rfl
@[go_sem] theorem cfVars_78 : cfVars 78 = [2, 3, 5, 6, 8] := by kernel_rfl
@[go_sem] theorem cfVars_82 : cfVars 82 = [2, 3] := by kernel_rfl
@[go_sem] theorem cfVars_83 : cfVars 83 = [2] := by kernel_rfl
@[go_sem] theorem cfVars_84 : cfVars 84 = [2] := by kernel_rfl
@[go_sem] theorem cfVars_85 : cfVars 85 = [3, 8] := by kernel_rfl
@[go_sem] theorem cfVars_97 : cfVars 97 = [3, 9] := by kernel_rfl
@[go_sem] theorem cfVars_98 : cfVars 98 = [3] := by kernel_rfl
@[go_sem] theorem cfVars_112 : cfVars 112 = [4] := by kernel_rfl
@[go_sem] theorem cfVars_113 : cfVars 113 = [2, 3] := by kernel_rfl
@[go_sem] theorem cfKeep_10 : cfKeep 10 = [0, 1, 2, 27] := by kernel_rfl
@[go_sem] theorem cfKeep_15 : cfKeep 15 = [0, 1, 2, 3, 5, 6, 7, 8, 13, 22, 30, 32, 33, 34, 35, 43, 47, 48, 49, 50, 77, 104] := by kernel_rfl
@[go_sem] theorem cfKeep_18 : cfKeep 18 = [0, 1, 2, 3, 4, 5, 6, 7, 12, 21, 29, 34, 46, 52, 83, 96] := by kernel_rfl
@[go_sem] theorem cfKeep_22 : cfKeep 22 = [0, 1, 4] := by kernel_rfl
@[go_sem] theorem cfKeep_25 : cfKeep 25 = [0, 1, 4, 5, 9, 17] := by kernel_rfl
@[go_sem] theorem cfKeep_32 : cfKeep 32 = [0, 1, 2, 3, 4, 5, 6, 16, 21, 43, 48, 53, 54, 55, 61] := by kernel_rfl
@[go_sem] theorem cfKeep_33 : cfKeep 33 = [0, 1, 4, 5, 6, 7, 11, 15, 16, 17, 18, 33, 45, 56] := by kernel_rfl
@[go_sem] theorem cfKeep_34 : cfKeep 34 = [0, 2, 3, 5, 6, 7, 8, 9, 14] := by kernel_rfl
@[go_sem] theorem cfKeep_35 : cfKeep 35 = [0, 1, 4, 5, 6, 11, 12, 13, 16, 19] := by kernel_rfl
@[go_sem] theorem cfKeep_38 : cfKeep 38 = [0, 1, 2, 3, 4, 5, 6, 16, 20, 26, 42, 67, 76, 100, 114] := by kernel_rfl
@[go_sem] theorem cfKeep_39 : cfKeep 39 = [0, 1, 4, 5, 6, 12, 15, 19, 28, 43, 62] := by kernel_rfl
@[go_sem] theorem cfKeep_40 : cfKeep 40 = [0, 1, 2, 3, 4] := by kernel_rfl
@[go_sem] theorem cfKeep_43 : cfKeep 43 = [0, 1, 4, 5, 7, 8, 9, 16] := by kernel_rfl
@[go_sem] theorem cfKeep_49 : cfKeep 49 = [0, 2, 3, 4, 5, 7, 9, 10, 11, 12, 16, 25, 49, 64, 77, 79, 83] := by kernel_rfl
@[go_sem] theorem cfKeep_50 : cfKeep 50 = [0, 1, 4, 5, 10, 24] := by kernel_rfl
@[go_sem] theorem cfKeep_51 : cfKeep 51 = [0, 1, 2, 3, 4] := by kernel_rfl
@[go_sem] theorem cfKeep_52 : cfKeep 52 = [0, 1, 2, 3, 4, 5, 6, 17, 18, 19, 20, 45, 47] := by kernel_rfl
@[go_sem] theorem cfKeep_53 : cfKeep 53 = [0, 1, 2, 4, 5, 6, 7, 35, 43, 52, 74, 88] := by kernel_rfl
@[go_sem] theorem cfKeep_54 : cfKeep 54 = [0, 2] := by kernel_rfl
@[go_sem] theorem cfKeep_55 : cfKeep 55 = [0, 1, 4] := by kernel_rfl
@[go_sem] theorem cfKeep_56 : cfKeep 56 = [0, 1, 2, 3, 4] := by kernel_rfl
@[go_sem] theorem cfKeep_57 : cfKeep 57 = [0, 2] := by kernel_rfl
@[go_sem] theorem cfKeep_63 : cfKeep 63 = [0, 1, 2, 3, 4, 5, 6, 7, 8, 13, 21, 30, 54, 72, 98, 119] := by kernel_rfl
@[go_sem] theorem cfKeep_64 : cfKeep 64 = [0, 1, 2, 3, 4, 9, 19, 29] := by kernel_rfl
@[go_sem] theorem cfKeep_65 : cfKeep 65 = [0, 1, 2, 3, 4, 5, 6, 7, 21, 22, 55, 95] := by kernel_rfl
@[go_sem] theorem cfKeep_66 : cfKeep 66 = [0, 1, 2, 4] := by kernel_rfl
@[go_sem] theorem cfKeep_67 : cfKeep 67 = [0, 1, 2, 3, 4] := by kernel_rfl
@[go_sem] theorem cfKeep_74 : cfKeep 74 = [0, 1, 2, 3, 4] := by kernel_rfl
@[go_sem] theorem cfKeep_75 : cfKeep 75 = [0, 2, 4] := by kernel_rfl
@[go_sem] theorem cfKeep_77 : cfKeep 77 = [0, 1, 2, 3, 4] := by kernel_rfl
@[go_sem] theorem cfKeep_78 : cfKeep 78 = [0, 1, 2, 3, 4, 5, 6, 7, 8, 22, 23, 33, 54, 73] := by kernel_rfl
@[go_sem] theorem cfKeep_82 : cfKeep 82 = [0, 1, 2, 3, 4, 9, 19] := by kernel_rfl
@[go_sem] theorem cfKeep_83 : cfKeep 83 = [0, 1, 2, 4, 5] := by kernel_rfl
@[go_sem] theorem cfKeep_84 : cfKeep 84 = [0, 1, 2, 4] := by kernel_rfl
@[go_sem] theorem cfKeep_85 : cfKeep 85 = [0, 1, 2, 3, 6, 7, 8, 13, 63] := by kernel_rfl
@[go_sem] theorem cfKeep_97 : cfKeep 97 = [0, 1, 2, 3, 6, 7, 9, 32, 76] := by kernel_rfl
@[go_sem] theorem cfKeep_98 : cfKeep 98 = [0, 1, 2, 3, 6, 7, 12, 32] := by kernel_rfl
@[go_sem] theorem cfKeep_112 : cfKeep 112 = [0, 1, 2, 4, 6, 7, 8, 9, 10, 11, 17, 31] := by kernel_rfl
@[go_sem] theorem cfKeep_113 : cfKeep 113 = [0, 1, 2, 3, 4] := by kernel_rfl
@[go_sem] theorem cfLive_15_9 : cfLive 15 9 = [1, 32, 33, 34] := by kernel_rfl
@[go_sem] theorem cfLive_15_16 : cfLive 15 16 = [1, 47, 48, 49] := by kernel_rfl
@[go_sem] theorem cfLive_18_9 : cfLive 18 9 = [1, 4] := by kernel_rfl
@[go_sem] theorem cfLive_18_15 : cfLive 18 15 = [1, 6] := by kernel_rfl
@[go_sem] theorem cfLive_25_2 : cfLive 25 2 = [0, 1, 5] := by kernel_rfl
@[go_sem] theorem cfLive_32_12 : cfLive 32 12 = [1, 53, 54] := by kernel_rfl
@[go_sem] theorem cfLive_33_6 : cfLive 33 6 = [0, 1, 15, 16, 17] := by kernel_rfl
@[go_sem] theorem cfLive_34_3 : cfLive 34 3 = [3, 6, 7, 8] := by kernel_rfl
@[go_sem] theorem cfLive_38_7 : cfLive 38 7 = [1, 4] := by kernel_rfl
@[go_sem] theorem cfLive_39_7 : cfLive 39 7 = [0, 1, 5, 6] := by kernel_rfl
@[go_sem] theorem cfLive_43_2 : cfLive 43 2 = [0, 1, 7, 8] := by kernel_rfl
@[go_sem] theorem cfLive_49_3 : cfLive 49 3 = [0, 3, 9, 10, 11] := by kernel_rfl
@[go_sem] theorem cfLive_49_16 : cfLive 49 16 = [77] := by kernel_rfl
@[go_sem] theorem cfLive_50_2 : cfLive 50 2 = [0, 1, 5] := by kernel_rfl
@[go_sem] theorem cfLive_52_4 : cfLive 52 4 = [1, 3, 17, 18, 19] := by kernel_rfl
@[go_sem] theorem cfLive_63_2 : cfLive 63 2 = [1, 3] := by kernel_rfl
@[go_sem] theorem cfLive_63_12 : cfLive 63 12 = [1, 5] := by kernel_rfl
@[go_sem] theorem cfLive_85_2 : cfLive 85 2 = [1, 2, 3, 7] := by kernel_rfl
@[go_sem] theorem cfLive_97_2 : cfLive 97 2 = [1, 2, 3, 7] := by kernel_rfl
@[go_sem] theorem cfLive_98_2 : cfLive 98 2 = [1, 2, 3, 7] := by kernel_rfl
@[go_sem] theorem cfLive_112_3 : cfLive 112 3 = [0, 2, 4, 8, 9, 10] := by kernel_rfl
@[go_sem] theorem cfOut_15_9_0 : cfOut 15 9 0 = [1] := by kernel_rfl
@[go_sem] theorem cfOut_15_16_2 : cfOut 15 16 2 = [] := by kernel_rfl
@[go_sem] theorem cfOut_18_9_0 : cfOut 18 9 0 = [1] := by kernel_rfl
@[go_sem] theorem cfOut_18_15_2 : cfOut 18 15 2 = [] := by kernel_rfl
@[go_sem] theorem cfOut_25_2_0 : cfOut 25 2 0 = [] := by kernel_rfl
@[go_sem] theorem cfOut_32_12_0 : cfOut 32 12 0 = [] := by kernel_rfl
@[go_sem] theorem cfOut_33_6_1 : cfOut 33 6 1 = [0] := by kernel_rfl
@[go_sem] theorem cfOut_34_3_0 : cfOut 34 3 0 = [3] := by kernel_rfl
@[go_sem] theorem cfOut_38_7_0 : cfOut 38 7 0 = [] := by kernel_rfl
@[go_sem] theorem cfOut_39_7_0 : cfOut 39 7 0 = [5] := by kernel_rfl
@[go_sem] theorem cfOut_43_2_0 : cfOut 43 2 0 = [] := by kernel_rfl
@[go_sem] theorem cfOut_49_3_0 : cfOut 49 3 0 = [3] := by kernel_rfl
@[go_sem] theorem cfOut_49_16_3 : cfOut 49 16 3 = [] := by kernel_rfl
@[go_sem] theorem cfOut_50_2_0 : cfOut 50 2 0 = [] := by kernel_rfl
@[go_sem] theorem cfOut_52_4_0 : cfOut 52 4 0 = [] := by kernel_rfl
@[go_sem] theorem cfOut_63_2_0 : cfOut 63 2 0 = [1] := by kernel_rfl
@[go_sem] theorem cfOut_63_12_3 : cfOut 63 12 3 = [1] := by kernel_rfl
@[go_sem] theorem cfOut_85_2_0 : cfOut 85 2 0 = [] := by kernel_rfl
@[go_sem] theorem cfOut_97_2_0 : cfOut 97 2 0 = [] := by kernel_rfl
@[go_sem] theorem cfOut_98_2_0 : cfOut 98 2 0 = [] := by kernel_rfl
@[go_sem] theorem cfOut_112_3_0 : cfOut 112 3 0 = [0, 2, 4, 8, 9] := by kernel_rfl
@[go_sem] theorem cfRes_10 : cfRes 10 = [0] := by kernel_rfl
@[go_sem] theorem cfRes_15 : cfRes 15 = [2] := by kernel_rfl
@[go_sem] theorem cfRes_18 : cfRes 18 = [2] := by kernel_rfl
@[go_sem] theorem cfRes_22 : cfRes 22 = [4] := by kernel_rfl
@[go_sem] theorem cfRes_25 : cfRes 25 = [4] := by kernel_rfl
@[go_sem] theorem cfRes_32 : cfRes 32 = [2] := by kernel_rfl
@[go_sem] theorem cfRes_33 : cfRes 33 = [4] := by kernel_rfl
@[go_sem] theorem cfRes_34 : cfRes 34 = [2] := by kernel_rfl
@[go_sem] theorem cfRes_35 : cfRes 35 = [4] := by kernel_rfl
@[go_sem] theorem cfRes_38 : cfRes 38 = [2] := by kernel_rfl
@[go_sem] theorem cfRes_39 : cfRes 39 = [4] := by kernel_rfl
@[go_sem] theorem cfRes_40 : cfRes 40 = [4] := by kernel_rfl
@[go_sem] theorem cfRes_43 : cfRes 43 = [4] := by kernel_rfl
@[go_sem] theorem cfRes_49 : cfRes 49 = [2] := by kernel_rfl
@[go_sem] theorem cfRes_50 : cfRes 50 = [4] := by kernel_rfl
@[go_sem] theorem cfRes_51 : cfRes 51 = [4] := by kernel_rfl
@[go_sem] theorem cfRes_52 : cfRes 52 = [2] := by kernel_rfl
@[go_sem] theorem cfRes_53 : cfRes 53 = [4] := by kernel_rfl
@[go_sem] theorem cfRes_54 : cfRes 54 = [2] := by kernel_rfl
@[go_sem] theorem cfRes_55 : cfRes 55 = [4] := by kernel_rfl
@[go_sem] theorem cfRes_56 : cfRes 56 = [4] := by kernel_rfl
@[go_sem] theorem cfRes_57 : cfRes 57 = [2] := by kernel_rfl
@[go_sem] theorem cfRes_63 : cfRes 63 = [2] := by kernel_rfl
@[go_sem] theorem cfRes_64 : cfRes 64 = [4] := by kernel_rfl
@[go_sem] theorem cfRes_65 : cfRes 65 = [4] := by kernel_rfl
@[go_sem] theorem cfRes_66 : cfRes 66 = [4] := by kernel_rfl
@[go_sem] theorem cfRes_67 : cfRes 67 = [4] := by kernel_rfl
@[go_sem] theorem cfRes_74 : cfRes 74 = [4] := by kernel_rfl
@[go_sem] theorem cfRes_75 : cfRes 75 = [2] := by kernel_rfl
@[go_sem] theorem cfRes_77 : cfRes 77 = [4] := by kernel_rfl
@[go_sem] theorem cfRes_78 : cfRes 78 = [4] := by kernel_rfl
@[go_sem] theorem cfRes_82 : cfRes 82 = [4] := by kernel_rfl
@[go_sem] theorem cfRes_83 : cfRes 83 = [4, 5] := by kernel_rfl
@[go_sem] theorem cfRes_84 : cfRes 84 = [4] := by kernel_rfl
@[go_sem] theorem cfRes_85 : cfRes 85 = [6] := by kernel_rfl
@[go_sem] theorem cfRes_97 : cfRes 97 = [6] := by kernel_rfl
@[go_sem] theorem cfRes_98 : cfRes 98 = [6] := by kernel_rfl
@[go_sem] theorem cfRes_112 : cfRes 112 = [6, 7] := by kernel_rfl
@[go_sem] theorem cfRes_113 : cfRes 113 = [4] := by kernel_rfl
@[go_sem] theorem cfVars_10 : cfVars 10 = [] := by kernel_rfl
@[go_sem] theorem cfVars_22 : cfVars 22 = [] := by kernel_rfl
@[go_sem] theorem cfVars_25 : cfVars 25 = [] := by kernel_rfl
@[go_sem] theorem cfVars_34 : cfVars 34 = [] := by kernel_rfl
@[go_sem] theorem cfVars_35 : cfVars 35 = [] := by kernel_rfl
@[go_sem] theorem cfVars_39 : cfVars 39 = [] := by kernel_rfl
@[go_sem] theorem cfVars_43 : cfVars 43 = [] := by kernel_rfl
@[go_sem] theorem cfVars_50 : cfVars 50 = [] := by kernel_rfl
@[go_sem] theorem cfVars_54 : cfVars 54 = [] := by kernel_rfl
@[go_sem] theorem cfVars_55 : cfVars 55 = [] := by kernel_rfl
@[go_sem] theorem cfVars_57 : cfVars 57 = [] := by kernel_rfl
@[go_sem] theorem cfVars_75 : cfVars 75 = [] := by kernel_rfl
@[go_sem] theorem ag3 : aggT Tryz.prog 3 = some false := by kernel_rfl
@[go_sem] theorem sz3 : szOf Tryz.prog 3 = some 1 := by kernel_rfl
@[go_sem] theorem un3 : Tryz.prog.underlying 3 = some (.int .i64) := by kernel_rfl
@[go_sem] theorem ze3 : zeroOf Tryz.prog 3 = some (.int .i64 (0)) := by kernel_rfl
@[go_sem] theorem zk3 : zeroOk Tryz.prog 3 1 = true := by kernel_rfl
@[go_sem] theorem ag5 : aggT Tryz.prog 5 = some false := by kernel_rfl
@[go_sem] theorem sz5 : szOf Tryz.prog 5 = some 1 := by kernel_rfl
@[go_sem] theorem un5 : Tryz.prog.underlying 5 = some (.int .u8) := by kernel_rfl
@[go_sem] theorem ze5 : zeroOf Tryz.prog 5 = some (.int .u8 (0)) := by kernel_rfl
@[go_sem] theorem zk5 : zeroOk Tryz.prog 5 1 = true := by kernel_rfl
@[go_sem] theorem el22 : elemT Tryz.prog 22 = some (77, 3, 24) := by kernel_rfl
@[go_sem] theorem ag22 : aggT Tryz.prog 22 = some false := by kernel_rfl
@[go_sem] theorem sz22 : szOf Tryz.prog 22 = some 1 := by kernel_rfl
@[go_sem] theorem un22 : Tryz.prog.underlying 22 = some (.slice 77) := by kernel_rfl
@[go_sem] theorem ze22 : zeroOf Tryz.prog 22 = some (.list true 0 []) := by kernel_rfl
@[go_sem] theorem zk22 : zeroOk Tryz.prog 22 1 = true := by kernel_rfl
@[go_sem] theorem el23 : elemT Tryz.prog 23 = some (70, 4, 32) := by kernel_rfl
@[go_sem] theorem ag23 : aggT Tryz.prog 23 = some false := by kernel_rfl
@[go_sem] theorem sz23 : szOf Tryz.prog 23 = some 1 := by kernel_rfl
@[go_sem] theorem un23 : Tryz.prog.underlying 23 = some (.slice 70) := by kernel_rfl
@[go_sem] theorem ze23 : zeroOf Tryz.prog 23 = some (.list true 0 []) := by kernel_rfl
@[go_sem] theorem zk23 : zeroOk Tryz.prog 23 1 = true := by kernel_rfl
@[go_sem] theorem ag25 : aggT Tryz.prog 25 = some true := by kernel_rfl
@[go_sem] theorem sz25 : szOf Tryz.prog 25 = some 3 := by kernel_rfl
@[go_sem] theorem fi25_0 : fieldT Tryz.prog 25 0 = some (0, 1, 22) := by kernel_rfl
@[go_sem] theorem fi25_1 : fieldT Tryz.prog 25 1 = some (1, 1, 23) := by kernel_rfl
@[go_sem] theorem fi25_2 : fieldT Tryz.prog 25 2 = some (2, 1, 3) := by kernel_rfl
@[go_sem] theorem bu25 {ps : List (Nat × AV)} : buildA Tryz.prog 25 ps = (fillA (fun i => ([some (0, 1), some (1, 1), some (2, 1)][i]?).join) [(.list true 0 []), (.list true 0 []), (.int .i64 (0))] ps).map .agg := buildA_struct (by kernel_rfl)
@[go_sem] theorem ze25 : zeroOf Tryz.prog 25 = some (.agg [(.list true 0 []), (.list true 0 []), (.int .i64 (0))]) := by kernel_rfl
@[go_sem] theorem zk25 : zeroOk Tryz.prog 25 3 = true := by kernel_rfl
@[go_sem] theorem el26 : elemT Tryz.prog 26 = some (47, 1, 24) := by kernel_rfl
@[go_sem] theorem ag26 : aggT Tryz.prog 26 = some false := by kernel_rfl
@[go_sem] theorem sz26 : szOf Tryz.prog 26 = some 1 := by kernel_rfl
@[go_sem] theorem un26 : Tryz.prog.underlying 26 = some (.slice 47) := by kernel_rfl
@[go_sem] theorem ze26 : zeroOf Tryz.prog 26 = some (.list true 0 []) := by kernel_rfl
@[go_sem] theorem zk26 : zeroOk Tryz.prog 26 1 = true := by kernel_rfl
@[go_sem] theorem el27 : elemT Tryz.prog 27 = some (61, 2, 16) := by kernel_rfl
@[go_sem] theorem ag27 : aggT Tryz.prog 27 = some false := by kernel_rfl
@[go_sem] theorem sz27 : szOf Tryz.prog 27 = some 1 := by kernel_rfl
@[go_sem] theorem un27 : Tryz.prog.underlying 27 = some (.slice 61) := by kernel_rfl
@[go_sem] theorem ze27 : zeroOf Tryz.prog 27 = some (.list true 0 []) := by kernel_rfl
@[go_sem] theorem zk27 : zeroOk Tryz.prog 27 1 = true := by kernel_rfl
@[go_sem] theorem ag29 : aggT Tryz.prog 29 = some true := by kernel_rfl
@[go_sem] theorem sz29 : szOf Tryz.prog 29 = some 6 := by kernel_rfl
@[go_sem] theorem fi29_0 : fieldT Tryz.prog 29 0 = some (0, 3, 25) := by kernel_rfl
@[go_sem] theorem fi29_1 : fieldT Tryz.prog 29 1 = some (3, 1, 3) := by kernel_rfl
@[go_sem] theorem fi29_2 : fieldT Tryz.prog 29 2 = some (4, 1, 26) := by kernel_rfl
@[go_sem] theorem fi29_3 : fieldT Tryz.prog 29 3 = some (5, 1, 27) := by kernel_rfl
@[go_sem] theorem bu29 {ps : List (Nat × AV)} : buildA Tryz.prog 29 ps = (fillA (fun i => ([some (0, 3), some (3, 1), some (4, 1), some (5, 1)][i]?).join) [(.list true 0 []), (.list true 0 []), (.int .i64 (0)), (.int .i64 (0)), (.list true 0 []), (.list true 0 [])] ps).map .agg := buildA_struct (by kernel_rfl)
@[go_sem] theorem ze29 : zeroOf Tryz.prog 29 = some (.agg [(.list true 0 []), (.list true 0 []), (.int .i64 (0)), (.int .i64 (0)), (.list true 0 []), (.list true 0 [])]) := by kernel_rfl
@[go_sem] theorem zk29 : zeroOk Tryz.prog 29 6 = true := by kernel_rfl
@[go_sem] theorem el30 : elemT Tryz.prog 30 = some (3, 1, 8) := by kernel_rfl
@[go_sem] theorem ag30 : aggT Tryz.prog 30 = some false := by kernel_rfl
@[go_sem] theorem sz30 : szOf Tryz.prog 30 = some 1 := by kernel_rfl
@[go_sem] theorem un30 : Tryz.prog.underlying 30 = some (.slice 3) := by kernel_rfl
@[go_sem] theorem ze30 : zeroOf Tryz.prog 30 = some (.list true 0 []) := by kernel_rfl
@[go_sem] theorem zk30 : zeroOk Tryz.prog 30 1 = true := by kernel_rfl
@[go_sem] theorem ag32 : aggT Tryz.prog 32 = some false := by kernel_rfl
@[go_sem] theorem sz32 : szOf Tryz.prog 32 = some 1 := by kernel_rfl
@[go_sem] theorem un32 : Tryz.prog.underlying 32 = some (.int .i64) := by kernel_rfl
@[go_sem] theorem ze32 : zeroOf Tryz.prog 32 = some (.int .i64 (0)) := by kernel_rfl
@[go_sem] theorem zk32 : zeroOk Tryz.prog 32 1 = true := by kernel_rfl
@[go_sem] theorem ag39 : aggT Tryz.prog 39 = some true := by kernel_rfl
@[go_sem] theorem sz39 : szOf Tryz.prog 39 = some 2 := by kernel_rfl
@[go_sem] theorem fi39_0 : fieldT Tryz.prog 39 0 = some (0, 1, 30) := by kernel_rfl
@[go_sem] theorem fi39_1 : fieldT Tryz.prog 39 1 = some (1, 1, 30) := by kernel_rfl
@[go_sem] theorem bu39 {ps : List (Nat × AV)} : buildA Tryz.prog 39 ps = (fillA (fun i => ([some (0, 1), some (1, 1)][i]?).join) [(.list true 0 []), (.list true 0 [])] ps).map .agg := buildA_struct (by kernel_rfl)
@[go_sem] theorem ze39 : zeroOf Tryz.prog 39 = some (.agg [(.list true 0 []), (.list true 0 [])]) := by kernel_rfl
@[go_sem] theorem zk39 : zeroOk Tryz.prog 39 2 = true := by kernel_rfl
@[go_sem] theorem el42 : elemT Tryz.prog 42 = some (30, 1, 24) := by kernel_rfl
@[go_sem] theorem ag42 : aggT Tryz.prog 42 = some false := by kernel_rfl
@[go_sem] theorem sz42 : szOf Tryz.prog 42 = some 1 := by kernel_rfl
@[go_sem] theorem un42 : Tryz.prog.underlying 42 = some (.slice 30) := by kernel_rfl
@[go_sem] theorem ze42 : zeroOf Tryz.prog 42 = some (.list true 0 []) := by kernel_rfl
@[go_sem] theorem zk42 : zeroOk Tryz.prog 42 1 = true := by kernel_rfl
@[go_sem] theorem el47 : elemT Tryz.prog 47 = some (79, 2, 16) := by kernel_rfl
@[go_sem] theorem ag47 : aggT Tryz.prog 47 = some false := by kernel_rfl
@[go_sem] theorem sz47 : szOf Tryz.prog 47 = some 1 := by kernel_rfl
@[go_sem] theorem un47 : Tryz.prog.underlying 47 = some (.slice 79) := by kernel_rfl
@[go_sem] theorem ze47 : zeroOf Tryz.prog 47 = some (.list true 0 []) := by kernel_rfl
@[go_sem] theorem zk47 : zeroOk Tryz.prog 47 1 = true := by kernel_rfl
@[go_sem] theorem ag61 : aggT Tryz.prog 61 = some true := by kernel_rfl
@[go_sem] theorem sz61 : szOf Tryz.prog 61 = some 2 := by kernel_rfl
@[go_sem] theorem fi61_0 : fieldT Tryz.prog 61 0 = some (0, 1, 3) := by kernel_rfl
@[go_sem] theorem fi61_1 : fieldT Tryz.prog 61 1 = some (1, 1, 3) := by kernel_rfl
@[go_sem] theorem bu61 {ps : List (Nat × AV)} : buildA Tryz.prog 61 ps = (fillA (fun i => ([some (0, 1), some (1, 1)][i]?).join) [(.int .i64 (0)), (.int .i64 (0))] ps).map .agg := buildA_struct (by kernel_rfl)
@[go_sem] theorem ze61 : zeroOf Tryz.prog 61 = some (.agg [(.int .i64 (0)), (.int .i64 (0))]) := by kernel_rfl
@[go_sem] theorem zk61 : zeroOk Tryz.prog 61 2 = true := by kernel_rfl
@[go_sem] theorem ag65 : aggT Tryz.prog 65 = some true := by kernel_rfl
@[go_sem] theorem sz65 : szOf Tryz.prog 65 = some 2 := by kernel_rfl
@[go_sem] theorem fi65_0 : fieldT Tryz.prog 65 0 = some (0, 1, 3) := by kernel_rfl
@[go_sem] theorem fi65_1 : fieldT Tryz.prog 65 1 = some (1, 1, 30) := by kernel_rfl
@[go_sem] theorem bu65 {ps : List (Nat × AV)} : buildA Tryz.prog 65 ps = (fillA (fun i => ([some (0, 1), some (1, 1)][i]?).join) [(.int .i64 (0)), (.list true 0 [])] ps).map .agg := buildA_struct (by kernel_rfl)
@[go_sem] theorem ze65 : zeroOf Tryz.prog 65 = some (.agg [(.int .i64 (0)), (.list true 0 [])]) := by kernel_rfl
@[go_sem] theorem zk65 : zeroOk Tryz.prog 65 2 = true := by kernel_rfl
@[go_sem] theorem ag70 : aggT Tryz.prog 70 = some true := by kernel_rfl
@[go_sem] theorem sz70 : szOf Tryz.prog 70 = some 4 := by kernel_rfl
@[go_sem] theorem fi70_0 : fieldT Tryz.prog 70 0 = some (0, 1, 3) := by kernel_rfl
@[go_sem] theorem fi70_1 : fieldT Tryz.prog 70 1 = some (1, 1, 3) := by kernel_rfl
@[go_sem] theorem fi70_2 : fieldT Tryz.prog 70 2 = some (2, 1, 3) := by kernel_rfl
@[go_sem] theorem fi70_3 : fieldT Tryz.prog 70 3 = some (3, 1, 3) := by kernel_rfl
@[go_sem] theorem bu70 {ps : List (Nat × AV)} : buildA Tryz.prog 70 ps = (fillA (fun i => ([some (0, 1), some (1, 1), some (2, 1), some (3, 1)][i]?).join) [(.int .i64 (0)), (.int .i64 (0)), (.int .i64 (0)), (.int .i64 (0))] ps).map .agg := buildA_struct (by kernel_rfl)
@[go_sem] theorem ze70 : zeroOf Tryz.prog 70 = some (.agg [(.int .i64 (0)), (.int .i64 (0)), (.int .i64 (0)), (.int .i64 (0))]) := by kernel_rfl
@[go_sem] theorem zk70 : zeroOk Tryz.prog 70 4 = true := by kernel_rfl
@[go_sem] theorem ag73 : aggT Tryz.prog 73 = some true := by kernel_rfl
@[go_sem] theorem sz73 : szOf Tryz.prog 73 = some 2 := by kernel_rfl
@[go_sem] theorem fi73_0 : fieldT Tryz.prog 73 0 = some (0, 1, 3) := by kernel_rfl
@[go_sem] theorem fi73_1 : fieldT Tryz.prog 73 1 = some (1, 1, 30) := by kernel_rfl
@[go_sem] theorem bu73 {ps : List (Nat × AV)} : buildA Tryz.prog 73 ps = (fillA (fun i => ([some (0, 1), some (1, 1)][i]?).join) [(.int .i64 (0)), (.list true 0 [])] ps).map .agg := buildA_struct (by kernel_rfl)
@[go_sem] theorem ze73 : zeroOf Tryz.prog 73 = some (.agg [(.int .i64 (0)), (.list true 0 [])]) := by kernel_rfl
@[go_sem] theorem zk73 : zeroOk Tryz.prog 73 2 = true := by kernel_rfl
@[go_sem] theorem ag77 : aggT Tryz.prog 77 = some true := by kernel_rfl
@[go_sem] theorem sz77 : szOf Tryz.prog 77 = some 3 := by kernel_rfl
@[go_sem] theorem fi77_0 : fieldT Tryz.prog 77 0 = some (0, 1, 3) := by kernel_rfl
@[go_sem] theorem fi77_1 : fieldT Tryz.prog 77 1 = some (1, 1, 3) := by kernel_rfl
@[go_sem] theorem fi77_2 : fieldT Tryz.prog 77 2 = some (2, 1, 3) := by kernel_rfl
@[go_sem] theorem bu77 {ps : List (Nat × AV)} : buildA Tryz.prog 77 ps = (fillA (fun i => ([some (0, 1), some (1, 1), some (2, 1)][i]?).join) [(.int .i64 (0)), (.int .i64 (0)), (.int .i64 (0))] ps).map .agg := buildA_struct (by kernel_rfl)
@[go_sem] theorem ze77 : zeroOf Tryz.prog 77 = some (.agg [(.int .i64 (0)), (.int .i64 (0)), (.int .i64 (0))]) := by kernel_rfl
@[go_sem] theorem zk77 : zeroOk Tryz.prog 77 3 = true := by kernel_rfl
@[go_sem] theorem ag79 : aggT Tryz.prog 79 = some true := by kernel_rfl
@[go_sem] theorem sz79 : szOf Tryz.prog 79 = some 2 := by kernel_rfl
@[go_sem] theorem fi79_0 : fieldT Tryz.prog 79 0 = some (0, 1, 3) := by kernel_rfl
@[go_sem] theorem fi79_1 : fieldT Tryz.prog 79 1 = some (1, 1, 3) := by kernel_rfl
@[go_sem] theorem bu79 {ps : List (Nat × AV)} : buildA Tryz.prog 79 ps = (fillA (fun i => ([some (0, 1), some (1, 1)][i]?).join) [(.int .i64 (0)), (.int .i64 (0))] ps).map .agg := buildA_struct (by kernel_rfl)
@[go_sem] theorem ze79 : zeroOf Tryz.prog 79 = some (.agg [(.int .i64 (0)), (.int .i64 (0))]) := by kernel_rfl
@[go_sem] theorem zk79 : zeroOk Tryz.prog 79 2 = true := by kernel_rfl
@[go_sem] theorem ag87 : aggT Tryz.prog 87 = some false := by kernel_rfl
@[go_sem] theorem sz87 : szOf Tryz.prog 87 = some 1 := by kernel_rfl
@[go_sem] theorem ze87 : zeroOf Tryz.prog 87 = some .nilf := by kernel_rfl
@[go_sem] theorem zk87 : zeroOk Tryz.prog 87 1 = true := by kernel_rfl
@[go_sem] theorem ag106 : aggT Tryz.prog 106 = some false := by kernel_rfl
@[go_sem] theorem sz106 : szOf Tryz.prog 106 = some 1 := by kernel_rfl
@[go_sem] theorem un106 : Tryz.prog.underlying 106 = some (.int .u64) := by kernel_rfl
@[go_sem] theorem ze106 : zeroOf Tryz.prog 106 = some (.int .u64 (0)) := by kernel_rfl
@[go_sem] theorem zk106 : zeroOk Tryz.prog 106 1 = true := by kernel_rfl
@[go_sem] theorem ag107 : aggT Tryz.prog 107 = some false := by kernel_rfl
@[go_sem] theorem sz107 : szOf Tryz.prog 107 = some 1 := by kernel_rfl
@[go_sem] theorem un107 : Tryz.prog.underlying 107 = some (.map 3 3) := by kernel_rfl
@[go_sem] theorem ze107 : zeroOf Tryz.prog 107 = some (.map none) := by kernel_rfl
@[go_sem] theorem zk107 : zeroOk Tryz.prog 107 1 = true := by kernel_rfl
@[go_sem] theorem lm107 : lowMapOk Tryz.prog 107 = some (3, 3) := by kernel_rfl
@[go_sem] theorem ag117 : aggT Tryz.prog 117 = some false := by kernel_rfl
@[go_sem] theorem sz117 : szOf Tryz.prog 117 = some 1 := by kernel_rfl
@[go_sem] theorem un117 : Tryz.prog.underlying 117 = some (.int .i64) := by kernel_rfl
@[go_sem] theorem ze117 : zeroOf Tryz.prog 117 = some (.int .i64 (0)) := by kernel_rfl
@[go_sem] theorem zk117 : zeroOk Tryz.prog 117 1 = true := by kernel_rfl
@[go_sem] theorem ag124 : aggT Tryz.prog 124 = some false := by kernel_rfl
@[go_sem] theorem sz124 : szOf Tryz.prog 124 = some 1 := by kernel_rfl
@[go_sem] theorem un124 : Tryz.prog.underlying 124 = some (.int .u32) := by kernel_rfl
@[go_sem] theorem ze124 : zeroOf Tryz.prog 124 = some (.int .u32 (0)) := by kernel_rfl
@[go_sem] theorem zk124 : zeroOk Tryz.prog 124 1 = true := by kernel_rfl
@[go_sem] theorem ag126 : aggT Tryz.prog 126 = some false := by kernel_rfl
@[go_sem] theorem sz126 : szOf Tryz.prog 126 = some 1 := by kernel_rfl
@[go_sem] theorem un126 : Tryz.prog.underlying 126 = some (.int .u64) := by kernel_rfl
@[go_sem] theorem ze126 : zeroOf Tryz.prog 126 = some (.int .u64 (0)) := by kernel_rfl
@[go_sem] theorem zk126 : zeroOk Tryz.prog 126 1 = true := by kernel_rfl
@[go_sem] theorem ag129 : aggT Tryz.prog 129 = some false := by kernel_rfl
@[go_sem] theorem sz129 : szOf Tryz.prog 129 = some 1 := by kernel_rfl
@[go_sem] theorem un129 : Tryz.prog.underlying 129 = some (.int .u64) := by kernel_rfl
@[go_sem] theorem ze129 : zeroOf Tryz.prog 129 = some (.int .u64 (0)) := by kernel_rfl
@[go_sem] theorem zk129 : zeroOk Tryz.prog 129 1 = true := by kernel_rfl
@[go_sem] theorem ag133 : aggT Tryz.prog 133 = some false := by kernel_rfl
@[go_sem] theorem sz133 : szOf Tryz.prog 133 = some 1 := by kernel_rfl
@[go_sem] theorem un133 : Tryz.prog.underlying 133 = some (.pointer 3) := by kernel_rfl
@[go_sem] theorem ze133 : zeroOf Tryz.prog 133 = some .nilp := by kernel_rfl
@[go_sem] theorem zk133 : zeroOk Tryz.prog 133 1 = true := by kernel_rfl

end Go.Can
