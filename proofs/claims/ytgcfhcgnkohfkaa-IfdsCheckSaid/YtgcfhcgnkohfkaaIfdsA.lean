/- The knobs of the evaluator for the functions about IFDS. The tables are printed by tools/Cfg.lean. -/
import Derived.Test.YtgcfhcgnkohfkaaCanX
import Derived.Test.YtgcfhcgnkohfkaaRows
import Derived.Sort.Defs
import Derived.Lib.BitFns
set_option linter.unusedSimpArgs false
set_option linter.unusedVariables false
namespace Go.Can
open Go Go.Proofs

def cfVars : FuncId → List Tmp
  | 3 => [1]
  | 4 => [3]
  | 5 => [3, 5, 7, 11, 13]
  | 6 => [2, 3]
  | 7 => [1, 8]
  | 8 => [1, 7]
  | 9 => [1]
  | 10 => [3]
  | 11 => [3]
  | 12 => [1]
  | 13 => [1, 2, 6, 8]
  | 16 => [2, 3]
  | 17 => [2, 3]
  | 18 => [2, 3]
  | 20 => [1]
  | 21 => [6]
  | 24 => [1, 5]
  | 25 => [2, 3]
  | 26 => [0, 1]
  | 29 => [1]
  | 32 => [3]
  | 33 => [2]
  | 34 => [2, 3]
  | 35 => [2]
  | 36 => [0, 1]
  | 37 => [2, 3]
  | 38 => [5]
  | 40 => [2, 3]
  | 41 => [1, 3, 5]
  | 42 => [2, 5]
  | 45 => [2, 3]
  | 47 => [1, 4]
  | 48 => [2, 3]
  | 49 => [2, 3, 5, 6, 7]
  | 51 => [1, 5, 7, 9, 32, 78]
  | 52 => [3, 9]
  | 55 => [3, 7]
  | 56 => [2]
  | 57 => [2, 7]
  | 58 => [4]
  | 59 => [2, 3]
  | 62 => [2, 3]
  | 63 => [2, 3, 5, 6, 8]
  | 64 => [2, 3]
  | 65 => [2]
  | 66 => [2]
  | 67 => [3, 8]
  | 68 => [3]
  | 69 => [3, 4, 5, 7]
  | 70 => [4, 6, 9, 10, 12]
  | 83 => [3, 6, 8]
  | 85 => [8]
  | 86 => [3]
  | 88 => [3, 9]
  | 89 => [3]
  | 90 => [4, 5]
  | 91 => [3]
  | 92 => [4, 5, 8]
  | 93 => [4, 5]
  | 94 => [3]
  | 96 => [2]
  | 102 => [2, 4]
  | 103 => [2, 3]
  | 104 => [2, 3, 4]
  | 108 => [3]
  | 117 => [4]
  | 118 => [2, 3]
  | 119 => [3]
  | 120 => [3]
  | 122 => [1]
  | _ => []

def cfKeep : FuncId → List Tmp
  | 3 => [0, 1, 2]
  | 4 => [0, 1, 2, 3, 6]
  | 5 => [0, 1, 2, 3, 5, 6, 7, 9, 10, 11, 12, 13, 14, 28, 53, 61, 66]
  | 6 => [0, 1, 2, 3, 4, 14]
  | 7 => [0, 1, 2, 3, 5, 6, 7, 8, 13, 22, 30, 32, 33, 34, 35, 43, 47, 48, 49, 50, 77, 104]
  | 8 => [0, 1, 2, 3, 4, 5, 6, 7, 12, 21, 29, 34, 46, 52, 83, 96]
  | 9 => [0, 1, 2, 21]
  | 10 => [0, 1, 2, 3, 6, 8]
  | 11 => [0, 1, 2, 3, 6, 8, 10]
  | 12 => [0, 1, 2, 3, 32, 37, 46]
  | 13 => [0, 1, 2, 3, 4, 5, 6, 8, 9, 10, 17, 35, 36, 37, 38, 41, 60, 71, 72, 73, 74]
  | 14 => [0, 1, 4, 5, 6, 7, 11, 23]
  | 15 => [0, 1, 4, 5, 6, 12, 15, 19, 28, 43, 62]
  | 16 => [0, 1, 2, 3, 4, 5, 6, 7, 12, 25, 30, 40, 54]
  | 17 => [0, 1, 2, 3, 4, 5, 6, 7, 8, 10, 12, 13, 14, 15, 25, 28, 29, 30, 31, 35, 36, 37, 38, 55]
  | 18 => [0, 1, 2, 3, 4, 5, 6, 7, 12, 25, 30, 40, 64]
  | 19 => [0, 1, 2, 27]
  | 20 => [0, 1, 2, 3, 4, 5, 6, 16, 21, 43, 48, 53, 54, 55, 61]
  | 21 => [0, 1, 4, 5, 6, 7, 11, 15, 16, 17, 18, 33, 45, 56]
  | 22 => [0, 2, 3, 5, 6, 7, 8, 9, 14]
  | 23 => [0, 1, 4, 5, 6, 11, 12, 13, 16, 19]
  | 24 => [0, 1, 2, 3, 4, 5, 6, 16, 20, 26, 42, 67, 76, 100, 114]
  | 25 => [0, 1, 2, 3, 4]
  | 26 => [0, 1]
  | 27 => [0, 1, 4]
  | 28 => [0, 1, 4, 5, 9, 17]
  | 29 => [0, 1, 2, 3, 4, 5, 9]
  | 30 => [0, 2]
  | 31 => [0, 2, 3, 4, 5, 8, 13, 25, 32, 44]
  | 32 => [0, 1, 3, 4, 5, 6, 7, 11, 19, 30, 43]
  | 33 => [0, 1, 2, 4]
  | 34 => [0, 1, 2, 3, 4]
  | 35 => [0, 1, 2, 4, 5, 6, 7, 11, 21]
  | 36 => [0, 1]
  | 37 => [0, 1, 2, 3, 4, 5, 6, 8, 9, 10, 14, 23, 33, 36, 37, 38, 39, 49, 68, 70, 71, 72, 73, 91]
  | 38 => [0, 2, 3, 4, 5, 7, 9, 10, 11, 12, 16, 25, 49, 64, 77, 79, 83]
  | 39 => [0, 1, 4, 5, 10, 24]
  | 40 => [0, 1, 2, 3, 4]
  | 41 => [0, 1, 2, 3, 4, 5, 6, 17, 18, 19, 20, 45, 47]
  | 42 => [0, 1, 2, 4, 5, 6, 7, 35, 43, 52, 74, 88]
  | 43 => [0, 2]
  | 44 => [0, 1, 4]
  | 45 => [0, 1, 2, 3, 4]
  | 46 => [0, 2]
  | 47 => [0, 1, 2, 3, 4, 5, 6, 7, 8, 13, 21, 30, 54, 72, 98, 119]
  | 48 => [0, 1, 2, 3, 4, 9, 19, 29]
  | 49 => [0, 1, 2, 3, 4, 5, 6, 7, 21, 22, 55, 95]
  | 50 => [0, 1, 4, 5, 7, 8, 9, 16]
  | 51 => [0, 1, 2, 3, 4, 5, 6, 7, 9, 22, 23, 24, 25, 50, 51, 52, 53, 59, 69, 70, 71, 72]
  | 52 => [0, 2, 3, 5, 6, 8, 9, 11, 30, 48, 55, 56, 57, 58, 86, 97, 98, 99, 100, 114, 123, 124, 125, 126]
  | 53 => [0, 1, 2, 3, 8, 9, 10, 11, 12, 13, 14, 15, 16, 17, 18, 23, 29, 35, 50, 68, 72, 87, 113]
  | 54 => [0, 2]
  | 55 => [0, 1, 2, 3, 6, 8]
  | 56 => [0, 1, 2, 4, 5, 7, 15, 16, 17, 18]
  | 57 => [0, 1, 2, 4, 5, 7, 9, 10, 11, 12, 18]
  | 58 => [0, 1, 2, 3, 4, 8, 17]
  | 59 => [0, 1, 2, 3, 4]
  | 60 => [0, 2, 4]
  | 61 => [0, 1, 4]
  | 62 => [0, 1, 2, 3, 4]
  | 63 => [0, 1, 2, 3, 4, 5, 6, 7, 8, 22, 23, 33, 54, 73]
  | 64 => [0, 1, 2, 3, 4, 9, 19]
  | 65 => [0, 1, 2, 4, 5]
  | 66 => [0, 1, 2, 4]
  | 67 => [0, 1, 2, 3, 6, 7, 8, 13, 63]
  | 68 => [0, 1, 3, 4, 10, 15]
  | 69 => [0, 1, 3, 4, 5, 7, 38, 43, 44, 45, 46]
  | 70 => [0, 1, 2, 4, 6, 8, 9, 10, 12, 26, 27, 28, 29, 56, 61, 62, 63, 64]
  | 71 => [0, 1, 2, 6, 7, 8, 10, 37]
  | 72 => [0, 1, 2, 6, 7, 12, 30]
  | 73 => [0, 1, 2, 6, 7, 8, 9, 10, 19, 30]
  | 74 => [0, 1, 2, 6, 7, 8, 9, 10, 15, 33, 43]
  | 75 => [0, 1, 2, 6, 7, 8, 9, 10, 11, 12, 32, 34, 49, 51, 54]
  | 76 => [0, 1, 2, 6, 7, 13]
  | 77 => [0, 1, 2, 6, 7, 8, 9, 10, 14, 32, 37, 41, 61, 65, 78, 98, 103, 116]
  | 78 => [0, 1, 4]
  | 79 => [0, 1, 2, 3, 8, 9, 10, 43, 59, 64]
  | 80 => [0, 1, 2, 3, 8, 9, 10, 11, 43, 60, 65, 112, 129, 134]
  | 81 => [0, 2, 4, 8]
  | 82 => [0, 2, 4, 8, 14]
  | 83 => [0, 1, 2, 3, 6, 7, 8, 9, 11, 19, 24, 26, 27, 28, 29, 32, 43, 54]
  | 84 => [0, 2, 3]
  | 85 => [0, 1, 4, 5, 6, 8, 10, 15, 16, 17, 18, 23, 36]
  | 86 => [0, 1, 3, 4]
  | 87 => [0, 1, 2, 3, 4, 10, 11, 12, 13, 14, 15, 16, 17, 18, 19, 20, 25, 32, 39, 56, 75, 80, 97, 125]
  | 88 => [0, 1, 2, 3, 6, 7, 9, 32, 76]
  | 89 => [0, 1, 2, 3, 6, 7, 12, 32]
  | 90 => [0, 1, 2, 4, 5, 6, 7, 15, 22]
  | 91 => [0, 1, 3, 4, 5, 13]
  | 92 => [0, 1, 2, 4, 5, 7, 8, 10, 18, 19, 20, 21, 37, 42, 43, 44, 45]
  | 93 => [0, 1, 2, 4, 5, 6, 7, 15, 22]
  | 94 => [0, 1, 3, 4, 5, 13]
  | 95 => [0, 1, 2, 6, 7, 8, 9, 10, 11, 17, 31]
  | 96 => [0, 1, 2, 4]
  | 97 => [0, 1, 2, 3, 8, 9, 16, 36, 52]
  | 98 => [0, 2]
  | 99 => [0, 2]
  | 100 => [0, 1, 2, 6]
  | 101 => [0, 1, 2, 3, 4, 10]
  | 102 => [0, 1, 2, 4, 5, 6, 10, 21]
  | 103 => [0, 1, 2, 3, 4, 5]
  | 104 => [0, 1, 2, 3, 4, 5, 9, 25]
  | 105 => [0, 2, 3, 5, 6, 8, 9, 10, 11, 12, 20, 25, 26, 27, 28]
  | 106 => [0, 2, 4]
  | 107 => [0, 1, 4, 5, 6, 7, 8, 9, 15, 27]
  | 108 => [0, 1, 3, 4, 5, 7, 8, 9, 16]
  | 109 => [0, 1, 2, 3, 8, 9, 14, 34]
  | 110 => [0, 1, 2, 3, 8, 9, 10, 11, 12, 21, 33]
  | 111 => [0, 1, 2, 8, 9, 10, 11, 12, 17, 35, 45]
  | 112 => [0, 1, 2, 3, 8, 9, 10, 11, 12, 13, 14, 34, 36, 55, 57, 60]
  | 113 => [0, 1, 2, 8, 9, 15]
  | 114 => [0, 1, 2, 3, 8, 9, 10, 11, 12, 16, 36, 41, 45, 65, 69, 84, 104, 109, 124]
  | 115 => [0, 1, 2, 3, 4, 10, 11, 12, 47, 65, 70]
  | 116 => [0, 1, 2, 3, 4, 10, 11, 12, 13, 47, 66, 71, 120, 139, 144]
  | 117 => [0, 1, 2, 4, 6, 7, 8, 9, 10, 11, 17, 31]
  | 118 => [0, 1, 2, 3, 4]
  | 119 => [0, 1, 3, 4, 10, 15]
  | 120 => [0, 1, 3, 4, 10, 15]
  | 121 => [0, 1, 2, 3, 8, 9, 18]
  | 122 => [0, 1, 2]
  | 123 => [0, 1, 4, 6, 16]
  | 124 => [0, 2]
  | 125 => [0, 1, 2, 3, 4, 10, 11, 18, 40, 58]
  | 126 => [0, 1, 2, 3, 8]
  | 127 => [0, 1, 2, 3, 4, 5, 12]
  | 128 => [0, 1, 2, 3, 4, 10, 11, 22]
  | _ => []

def cfLive : FuncId → Nat → List Tmp
  | 5, 11 => [3, 7, 9, 10, 11, 12]
  | 7, 9 => [1, 32, 33, 34]
  | 7, 16 => [1, 47, 48, 49]
  | 8, 9 => [1, 4]
  | 8, 15 => [1, 6]
  | 12, 4 => [1, 3]
  | 13, 6 => [2, 6, 35, 36, 37]
  | 13, 14 => [2, 6, 71, 72, 73]
  | 14, 3 => [0, 1, 5, 6]
  | 14, 7 => [1, 5, 7]
  | 15, 7 => [0, 1, 5, 6]
  | 16, 2 => [2, 3, 5]
  | 16, 7 => [2, 3, 6]
  | 16, 10 => [2, 3, 6, 7]
  | 17, 2 => [2, 3, 12, 13, 14]
  | 17, 8 => [3, 28, 29, 30]
  | 17, 11 => [3, 7, 28, 29, 30, 35, 36, 37]
  | 18, 2 => [2, 3, 5]
  | 18, 7 => [2, 3, 6]
  | 18, 10 => [2, 3, 6, 7]
  | 20, 12 => [1, 53, 54]
  | 21, 6 => [0, 1, 15, 16, 17]
  | 22, 3 => [3, 6, 7, 8]
  | 24, 7 => [1, 4]
  | 28, 2 => [0, 1, 5]
  | 31, 4 => [0, 3]
  | 31, 9 => [0, 3, 4, 5]
  | 32, 4 => [0, 3, 5, 6, 7]
  | 37, 10 => [2, 3, 36, 37, 38]
  | 37, 18 => [2, 3, 70, 71, 72]
  | 38, 3 => [0, 3, 9, 10, 11]
  | 38, 16 => [77]
  | 39, 2 => [0, 1, 5]
  | 41, 4 => [1, 3, 17, 18, 19]
  | 47, 2 => [1, 3]
  | 47, 12 => [1, 5]
  | 50, 2 => [0, 1, 7, 8]
  | 51, 3 => [1, 3, 22, 23, 24]
  | 51, 8 => [1, 3, 50, 51, 52]
  | 51, 14 => [3, 69, 70, 71]
  | 52, 2 => [0, 2]
  | 52, 7 => [0, 2, 3, 55, 56, 57]
  | 52, 15 => [0, 2, 3, 97, 98, 99]
  | 52, 21 => [0, 2, 3, 9, 97, 98, 99, 123, 124, 125]
  | 53, 2 => [0, 1, 2, 3, 8, 9]
  | 56, 3 => [2, 5, 15, 16, 17]
  | 57, 3 => [1, 5, 9, 10, 11]
  | 67, 2 => [1, 2, 3, 7]
  | 69, 5 => [0, 5, 43, 44, 45]
  | 70, 3 => [0, 4, 6, 26, 27, 28]
  | 70, 10 => [0, 4, 6, 10, 26, 27, 28, 61, 62, 63]
  | 71, 4 => [2, 7, 8, 10]
  | 72, 1 => [0, 1, 2, 6]
  | 72, 4 => [0, 1, 2, 6, 7]
  | 73, 4 => [0, 6, 7, 8, 9]
  | 73, 8 => [0, 6, 7, 10]
  | 74, 5 => [0, 1, 6, 7, 8, 9]
  | 76, 2 => [0, 6, 7]
  | 77, 3 => [0, 1, 2, 7, 8]
  | 77, 5 => [0, 1, 2, 7, 8]
  | 77, 14 => [0, 1, 2, 7, 8, 9]
  | 77, 20 => [0, 1, 2, 7, 8, 10]
  | 79, 3 => [0, 1, 9, 10]
  | 79, 5 => [0, 1, 9, 10]
  | 80, 3 => [0, 1, 10, 11]
  | 80, 5 => [0, 1, 10, 11]
  | 80, 13 => [0, 1, 10, 11]
  | 80, 15 => [0, 1, 10, 11]
  | 83, 7 => [3, 6, 8, 26, 27, 28]
  | 85, 5 => [5, 6, 15, 16, 17]
  | 87, 2 => [0, 1, 2, 3, 4, 10, 11]
  | 88, 2 => [1, 2, 3, 7]
  | 89, 2 => [1, 2, 3, 7]
  | 92, 2 => [0, 4, 5, 18, 19, 20]
  | 92, 7 => [0, 4, 5, 8, 18, 19, 20, 42, 43, 44]
  | 95, 3 => [0, 1, 2, 8, 9, 10]
  | 97, 1 => [0, 2, 3, 8]
  | 105, 3 => [0, 3, 9, 10, 11]
  | 105, 11 => [6, 25, 26, 27]
  | 107, 3 => [0, 1, 6, 7, 8]
  | 108, 2 => [0, 3, 7, 8]
  | 109, 1 => [0, 1, 2, 3, 8]
  | 109, 4 => [0, 1, 2, 3, 8, 9]
  | 110, 4 => [0, 3, 8, 9, 10, 11]
  | 110, 8 => [0, 3, 8, 9, 12]
  | 111, 5 => [0, 1, 8, 9, 10, 11]
  | 113, 2 => [0, 8, 9]
  | 114, 3 => [0, 1, 2, 3, 9, 10]
  | 114, 5 => [0, 1, 2, 3, 9, 10]
  | 114, 14 => [0, 1, 2, 3, 9, 10, 11]
  | 114, 20 => [0, 1, 2, 3, 9, 10, 12]
  | 115, 3 => [0, 1, 4, 11, 12]
  | 115, 5 => [0, 1, 4, 11, 12]
  | 116, 3 => [0, 1, 4, 12, 13]
  | 116, 5 => [0, 1, 4, 12, 13]
  | 116, 13 => [0, 1, 4, 12, 13]
  | 116, 15 => [0, 1, 4, 12, 13]
  | 117, 3 => [0, 2, 4, 8, 9, 10]
  | 125, 1 => [0, 2, 3, 4, 10]
  | _, _ => []

def cfOut : FuncId → Nat → Nat → List Tmp
  | 5, 11, 0 => [7, 11]
  | 7, 9, 0 => [1]
  | 7, 16, 2 => []
  | 8, 9, 0 => [1]
  | 8, 15, 2 => []
  | 12, 4, 0 => []
  | 13, 6, 0 => [2, 6]
  | 13, 14, 3 => [2, 6]
  | 14, 3, 0 => [1, 5]
  | 14, 7, 2 => [5]
  | 15, 7, 0 => [5]
  | 16, 2, 0 => [2, 3]
  | 16, 7, 2 => []
  | 16, 10, 4 => [2, 3, 6]
  | 16, 10, 3 => [2, 3, 6]
  | 16, 10, 2 => []
  | 17, 2, 0 => [2, 3]
  | 17, 8, 2 => []
  | 17, 11, 4 => [3, 28, 29, 30]
  | 17, 11, 3 => [3, 28, 29, 30]
  | 17, 11, 2 => []
  | 18, 2, 0 => [2, 3]
  | 18, 7, 2 => []
  | 18, 10, 4 => [2, 3, 6]
  | 18, 10, 3 => [2, 3, 6]
  | 18, 10, 2 => []
  | 20, 12, 0 => []
  | 21, 6, 1 => [0]
  | 22, 3, 0 => [3]
  | 24, 7, 0 => []
  | 28, 2, 0 => []
  | 31, 4, 0 => [0]
  | 31, 9, 2 => [0, 3]
  | 31, 9, 1 => [0, 3]
  | 31, 9, 0 => [0]
  | 32, 4, 0 => [3, 5, 6]
  | 37, 10, 0 => [2, 3]
  | 37, 18, 2 => []
  | 38, 3, 0 => [3]
  | 38, 16, 3 => []
  | 39, 2, 0 => []
  | 41, 4, 0 => []
  | 47, 2, 0 => [1]
  | 47, 12, 3 => [1]
  | 50, 2, 0 => []
  | 51, 3, 0 => [1, 3]
  | 51, 8, 2 => [1, 3]
  | 51, 14, 4 => [3]
  | 52, 2, 0 => []
  | 52, 7, 2 => [0, 2, 3]
  | 52, 7, 1 => [0, 2]
  | 52, 7, 0 => []
  | 52, 15, 4 => [0, 2]
  | 52, 15, 1 => [0, 2]
  | 52, 15, 0 => []
  | 52, 21, 6 => [0, 2, 3, 97, 98, 99]
  | 52, 21, 5 => [0, 2, 3, 97, 98, 99]
  | 52, 21, 4 => [0, 2]
  | 52, 21, 1 => [0, 2]
  | 52, 21, 0 => []
  | 53, 2, 0 => []
  | 56, 3, 0 => [5]
  | 57, 3, 0 => [5]
  | 67, 2, 0 => []
  | 69, 5, 0 => []
  | 70, 3, 0 => []
  | 70, 10, 2 => [0, 4, 6, 26, 27, 28]
  | 70, 10, 1 => [0, 4, 6, 26, 27, 28]
  | 70, 10, 0 => []
  | 71, 4, 0 => [10]
  | 72, 1, 0 => []
  | 72, 4, 2 => [0, 1, 2, 6]
  | 72, 4, 1 => [0, 1, 2, 6]
  | 72, 4, 0 => []
  | 73, 4, 0 => [0, 6, 7, 8]
  | 73, 8, 2 => []
  | 74, 5, 0 => []
  | 76, 2, 0 => []
  | 77, 3, 0 => []
  | 77, 5, 2 => [0, 1, 2, 7, 8]
  | 77, 5, 1 => [0, 1, 2, 7, 8]
  | 77, 5, 0 => []
  | 77, 14, 4 => [0, 1, 2, 7, 8]
  | 77, 14, 1 => [0, 1, 2, 7, 8]
  | 77, 14, 0 => []
  | 77, 20, 6 => [0, 1, 2, 7, 8]
  | 77, 20, 1 => [0, 1, 2, 7, 8]
  | 77, 20, 0 => []
  | 79, 3, 0 => [9]
  | 79, 3, 2 => [0, 1, 9, 10]
  | 79, 3, 1 => [0, 1, 9, 10]
  | 79, 5, 4 => [0, 1, 9, 10]
  | 79, 5, 1 => [0, 1, 9, 10]
  | 79, 5, 0 => [9]
  | 80, 3, 0 => [0, 1, 10, 11]
  | 80, 5, 2 => [0, 1, 10, 11]
  | 80, 13, 4 => [0, 1, 11]
  | 80, 13, 6 => [0, 1, 10, 11]
  | 80, 13, 5 => [0, 1, 10, 11]
  | 80, 15, 8 => [0, 1, 10, 11]
  | 80, 15, 5 => [0, 1, 10, 11]
  | 80, 15, 4 => [0, 1, 11]
  | 83, 7, 0 => [6, 8]
  | 85, 5, 0 => [6]
  | 87, 2, 0 => []
  | 88, 2, 0 => []
  | 89, 2, 0 => []
  | 92, 2, 0 => []
  | 92, 7, 2 => [0, 4, 5, 18, 19, 20]
  | 92, 7, 1 => [0, 4, 5, 18, 19, 20]
  | 92, 7, 0 => []
  | 95, 3, 0 => [0, 1, 2, 8, 9]
  | 97, 1, 0 => []
  | 105, 3, 0 => [0, 3]
  | 105, 11, 2 => [6]
  | 107, 3, 0 => [0, 1, 6, 7]
  | 108, 2, 0 => []
  | 109, 1, 0 => []
  | 109, 4, 2 => [0, 1, 2, 3, 8]
  | 109, 4, 1 => [0, 1, 2, 3, 8]
  | 109, 4, 0 => []
  | 110, 4, 0 => [0, 3, 8, 9, 10]
  | 110, 8, 2 => []
  | 111, 5, 0 => []
  | 113, 2, 0 => []
  | 114, 3, 0 => []
  | 114, 5, 2 => [0, 1, 2, 3, 9, 10]
  | 114, 5, 1 => [0, 1, 2, 3, 9, 10]
  | 114, 5, 0 => []
  | 114, 14, 4 => [0, 1, 2, 3, 9, 10]
  | 114, 14, 1 => [0, 1, 2, 3, 9, 10]
  | 114, 14, 0 => []
  | 114, 20, 6 => [0, 1, 2, 3, 9, 10]
  | 114, 20, 1 => [0, 1, 2, 3, 9, 10]
  | 114, 20, 0 => []
  | 115, 3, 0 => [11]
  | 115, 3, 2 => [0, 1, 4, 11, 12]
  | 115, 3, 1 => [0, 1, 4, 11, 12]
  | 115, 5, 4 => [0, 1, 4, 11, 12]
  | 115, 5, 1 => [0, 1, 4, 11, 12]
  | 115, 5, 0 => [11]
  | 116, 3, 0 => [0, 1, 4, 12, 13]
  | 116, 5, 2 => [0, 1, 4, 12, 13]
  | 116, 13, 4 => [0, 1, 13]
  | 116, 13, 6 => [0, 1, 4, 12, 13]
  | 116, 13, 5 => [0, 1, 4, 12, 13]
  | 116, 15, 8 => [0, 1, 4, 12, 13]
  | 116, 15, 5 => [0, 1, 4, 12, 13]
  | 116, 15, 4 => [0, 1, 13]
  | 117, 3, 0 => [0, 2, 4, 8, 9]
  | 125, 1, 0 => []
  | _, _, _ => []

def cfRes : FuncId → List Tmp
  | 3 => [2]
  | 4 => [6]
  | 5 => [6]
  | 6 => [4]
  | 7 => [2]
  | 8 => [2]
  | 9 => [0]
  | 10 => [6]
  | 11 => [6]
  | 12 => [2]
  | 13 => [2, 3]
  | 14 => [4]
  | 15 => [4]
  | 16 => [4]
  | 17 => [4]
  | 18 => [4]
  | 19 => [0]
  | 20 => [2]
  | 21 => [4]
  | 22 => [2]
  | 23 => [4]
  | 24 => [2]
  | 25 => [4]
  | 26 => [0]
  | 27 => [4]
  | 28 => [4]
  | 29 => [2, 3]
  | 31 => [2]
  | 32 => [4]
  | 33 => [4]
  | 34 => [4]
  | 35 => [4, 5]
  | 36 => [0]
  | 37 => [4]
  | 38 => [2]
  | 39 => [4]
  | 40 => [4]
  | 41 => [2]
  | 42 => [4]
  | 43 => [2]
  | 44 => [4]
  | 45 => [4]
  | 46 => [2]
  | 47 => [2]
  | 48 => [4]
  | 49 => [4]
  | 50 => [4]
  | 51 => [2]
  | 54 => [2]
  | 55 => [6]
  | 56 => [4]
  | 57 => [4]
  | 58 => [8]
  | 59 => [4]
  | 60 => [2]
  | 62 => [4]
  | 63 => [4]
  | 64 => [4]
  | 65 => [4, 5]
  | 66 => [4]
  | 67 => [6]
  | 68 => [4]
  | 71 => [6]
  | 75 => [6, 7]
  | 77 => [6]
  | 78 => [4]
  | 79 => [8]
  | 80 => [8, 9]
  | 81 => [2]
  | 82 => [2]
  | 83 => [6, 7]
  | 84 => [2]
  | 85 => [4]
  | 86 => [4]
  | 88 => [6]
  | 89 => [6]
  | 90 => [6]
  | 91 => [4]
  | 93 => [6]
  | 94 => [4]
  | 95 => [6, 7]
  | 96 => [4]
  | 98 => [2]
  | 99 => [2]
  | 100 => [6]
  | 101 => [10]
  | 102 => [4, 5]
  | 103 => [4]
  | 104 => [4]
  | 105 => [2]
  | 106 => [2]
  | 107 => [4, 5]
  | 108 => [4]
  | 112 => [8, 9]
  | 114 => [8]
  | 115 => [10]
  | 116 => [10, 11]
  | 117 => [6, 7]
  | 118 => [4]
  | 119 => [4]
  | 120 => [4]
  | 121 => [8, 9]
  | 122 => [2]
  | 123 => [4]
  | 124 => [2]
  | 126 => [8]
  | 127 => [12]
  | 128 => [10, 11]
  | _ => []

def impure : List FuncId := [29, 30, 31, 51, 52, 53, 60, 61, 68, 69, 70, 72, 73, 74, 75, 76, 77, 79, 80, 90, 92, 93, 97, 99, 100, 101, 105, 106, 119, 120, 121, 123]
def cfPure (f : FuncId) : Bool := !impure.contains f

def cfGrow : FuncId → Bool
  | 29 | 51 | 60 | 105 | 106 | 123 => true
  | _ => false

def liveW (f : FuncId) (r : Option Nat) (o : Option Out) : List Tmp := match r, o with
  | some r, none => cfLive f r
  | some _, some .ret => cfRes f
  | some r, some (.exit i) => cfOut f r i
  | _, _ => []

def nodeOf : AV → Option (Int × Int × Int)
  | .agg [.int .i64 a, .int .i64 b, .int .i64 c] => some (a, b, c)
  | _ => none

def nodesOf : List AV → Option (List (Int × Int × Int))
  | [] => some []
  | x :: xs => match nodeOf x, nodesOf xs with
    | some a, some l => some (a :: l)
    | _, _ => none

def nodeA (n : Int × Int × Int) : AV := .agg [.int .i64 n.1, .int .i64 n.2.1, .int .i64 n.2.2]
def edgeA (e : Int × Int × Int × Int) : AV := .agg [.int .i64 e.1, .int .i64 e.2.1, .int .i64 e.2.2.1, .int .i64 e.2.2.2]

def cmpI (a b : Int) : Int := if a < b then -1 else if a > b then 1 else 0
def orI : List Int → Int
  | [] => 0
  | x :: xs => if x = 0 then orI xs else x
def cmpN (a b : Int × Int × Int) : Int := orI [cmpI a.1 b.1, cmpI a.2.1 b.2.1, cmpI a.2.2 b.2.2]
def cmpE (a b : Int × Int × Int × Int) : Int := orI [cmpI a.1 b.1, cmpI a.2.1 b.2.1, cmpI a.2.2.1 b.2.2.1, cmpI a.2.2.2 b.2.2.2]

/-- The error of a node behind another one. -/
def nodeErr (p : Option (Int × Int × Int)) (n : Int × Int × Int) : Int :=
  if n.2.1 < 1 then 12 else if n.2.1 > 4 then 12 else if n.1 < 0 then 4
  else if n.2.1 = 2 then (if n.2.2 < 0 then 4 else match p with
    | some q => if cmpN q n ≥ 0 then 13 else 0
    | none => 0)
  else if n.2.2 = -1 then (match p with
    | some q => if cmpN q n ≥ 0 then 13 else 0
    | none => 0)
  else 4
def scanN : Option (Int × Int × Int) → List (Int × Int × Int) → Int
  | _, [] => 0
  | p, n :: l => if nodeErr p n = 0 then scanN (some n) l else nodeErr p n
/-- The nodes of a function that are no instructions. -/
def cntN (l : List (Int × Int × Int)) (f : Int) : Nat := (l.filter fun m => decide (m.1 = f) && !decide (m.2.1 = 2)).length
def errNodes (l : List (Int × Int × Int)) : Int := if scanN none l = 0 then (if l.all fun n => cntN l n.1 == 3 then 0 else 1) else scanN none l

def nodesP : List AV → St → Nat → Option (AV × St)
  | [.list _ 3 xs], σ, _ => match nodesOf xs with
    | some l => some (.int .i64 (errNodes l), σ)
    | none => none
  | _, _, _ => none

def edgeOf : AV → Option (Int × Int × Int × Int)
  | .agg [.int .i64 a, .int .i64 b, .int .i64 c, .int .i64 d] => some (a, b, c, d)
  | _ => none
def edgesOf : List AV → Option (List (Int × Int × Int × Int))
  | [] => some []
  | x :: xs => match edgeOf x, edgesOf xs with
    | some a, some l => some (a :: l)
    | _, _ => none
/-- The order that the library's sort makes. -/
def sortE (l : List (Int × Int × Int × Int)) : List (Int × Int × Int × Int) := (Go.Sort.pdq (fun x y => decide (cmpE x y < 0)) l.toArray 0 l.length (Go.Lib.bitLen l.length) true true).toList

/-- slices.SortFunc of edges by super.compareEdges. -/
def sortP : List AV → St → Nat → Option (AV × St)
  | [.row 4 id gen 0 len false, .fn 62 [] []], σ, base => match σ[id]? with
    | some (.row 4 xs) => if base ≤ id ∧ gen = xs.length ∧ len = xs.length ∧ 0 < xs.length ∧ xs.length < 4611686018427387904 then match edgesOf xs with
      | some l => some (.tup [], σ.set id (.row 4 ((sortE l).map edgeA)))
      | none => none
      else none
    | _ => none
  | _, _, _ => none

/-- The number of bits of a small number. -/
def lenP : List AV → St → Nat → Option (AV × St)
  | [.int .u64 0], σ, _ => some (.int .i64 0, σ)
  | [.int .u64 1], σ, _ => some (.int .i64 1, σ)
  | [.int .u64 2], σ, _ => some (.int .i64 2, σ)
  | _, _, _ => none

def intsOf : List AV → Option (List Int)
  | [] => some []
  | .int .i64 q :: xs => (intsOf xs).map (q :: ·)
  | _ :: _ => none

/-- slices.Clone of a list of numbers. -/
def cloneP : List AV → St → Nat → Option (AV × St)
  | [.list _ _ []], σ, _ => some (.list false 0 [], σ)
  | [.list _ 1 (x :: xs)], σ, _ => match intsOf (x :: xs) with
    | some l => if l.length * 8 ≤ 140737488355328 then some (.row 1 σ.length (x :: xs).length 0 (x :: xs).length false, σ ++ [.row 1 (x :: xs)]) else none
    | none => none
  | _, _, _ => none

/-- slices.Grow of nothing. -/
def growP : List AV → St → Nat → Option (AV × St)
  | [.list true s [], .int .i64 n], σ, _ =>
    if n = 0 then some (.list true s [], σ)
    else if 0 < n ∧ n * 8 ≤ 140737488355328 then some (.row 1 σ.length n.toNat 0 0 false, σ ++ [.row 1 (List.replicate n.toNat (.int .i64 0))])
    else none
  | _, _, _ => none

def cfI : Cfg where
  vars := cfVars
  keep := cfKeep
  live := fun f c o => liveW f (regOf c) o
  pure := cfPure
  grow := cfGrow
  prim := fun | 38 => some nodesP | 54 => some lenP | 61 => some sortP | 106 => some cloneP | 123 => some growP | _ => none

@[go_sem] theorem cfVars_3 : cfVars 3 = [1] := by kernel_rfl
@[go_sem] theorem cfVars_4 : cfVars 4 = [3] := by kernel_rfl
@[go_sem] theorem cfVars_6 : cfVars 6 = [2, 3] := by kernel_rfl
@[go_sem] theorem cfVars_7 : cfVars 7 = [1, 8] := by kernel_rfl
@[go_sem] theorem cfVars_8 : cfVars 8 = [1, 7] := by kernel_rfl
@[go_sem] theorem cfVars_10 : cfVars 10 = [3] := by kernel_rfl
@[go_sem] theorem cfVars_11 : cfVars 11 = [3] := by kernel_rfl
@[go_sem] theorem cfVars_17 : cfVars 17 = [2, 3] := by kernel_rfl
@[go_sem] theorem cfVars_18 : cfVars 18 = [2, 3] := by kernel_rfl
@[go_sem] theorem cfVars_20 : cfVars 20 = [1] := by kernel_rfl
@[go_sem] theorem cfVars_21 : cfVars 21 = [6] := by kernel_rfl
@[go_sem] theorem cfVars_24 : cfVars 24 = [1, 5] := by kernel_rfl
@[go_sem] theorem cfVars_25 : cfVars 25 = [2, 3] := by kernel_rfl
@[go_sem] theorem cfVars_33 : cfVars 33 = [2] := by kernel_rfl
@[go_sem] theorem cfVars_34 : cfVars 34 = [2, 3] := by kernel_rfl
@[go_sem] theorem cfVars_38 : cfVars 38 = [5] := by kernel_rfl
@[go_sem] theorem cfVars_40 : cfVars 40 = [2, 3] := by kernel_rfl
@[go_sem] theorem cfVars_41 : cfVars 41 = [1, 3, 5] := by kernel_rfl
@[go_sem] theorem cfVars_42 : cfVars 42 = [2, 5] := by kernel_rfl
@[go_sem] theorem cfVars_45 : cfVars 45 = [2, 3] := by kernel_rfl
@[go_sem] theorem cfVars_47 : cfVars 47 = [1, 4] := by kernel_rfl
@[go_sem] theorem cfVars_48 : cfVars 48 = [2, 3] := by kernel_rfl
@[go_sem] theorem cfVars_49 : cfVars 49 = [2, 3, 5, 6, 7] := by kernel_rfl
@[go_sem] theorem cfVars_59 : cfVars 59 = [2, 3] := by kernel_rfl
@[go_sem] theorem cfVars_62 : cfVars 62 = [2, 3] := by kernel_rfl
@[go_sem] theorem cfVars_63 : cfVars 63 = [2, 3, 5, 6, 8] := by kernel_rfl
@[go_sem] theorem cfVars_64 : cfVars 64 = [2, 3] := by kernel_rfl
@[go_sem] theorem cfVars_65 : cfVars 65 = [2] := by kernel_rfl
@[go_sem] theorem cfVars_66 : cfVars 66 = [2] := by kernel_rfl
@[go_sem] theorem cfVars_67 : cfVars 67 = [3, 8] := by kernel_rfl
@[go_sem] theorem cfVars_88 : cfVars 88 = [3, 9] := by kernel_rfl
@[go_sem] theorem cfVars_89 : cfVars 89 = [3] := by kernel_rfl
@[go_sem] theorem cfVars_117 : cfVars 117 = [4] := by kernel_rfl
@[go_sem] theorem cfVars_118 : cfVars 118 = [2, 3] := by kernel_rfl
@[go_sem] theorem cfKeep_3 : cfKeep 3 = [0, 1, 2] := by kernel_rfl
@[go_sem] theorem cfKeep_4 : cfKeep 4 = [0, 1, 2, 3, 6] := by kernel_rfl
@[go_sem] theorem cfKeep_6 : cfKeep 6 = [0, 1, 2, 3, 4, 14] := by kernel_rfl
@[go_sem] theorem cfKeep_7 : cfKeep 7 = [0, 1, 2, 3, 5, 6, 7, 8, 13, 22, 30, 32, 33, 34, 35, 43, 47, 48, 49, 50, 77, 104] := by kernel_rfl
@[go_sem] theorem cfKeep_8 : cfKeep 8 = [0, 1, 2, 3, 4, 5, 6, 7, 12, 21, 29, 34, 46, 52, 83, 96] := by kernel_rfl
@[go_sem] theorem cfKeep_10 : cfKeep 10 = [0, 1, 2, 3, 6, 8] := by kernel_rfl
@[go_sem] theorem cfKeep_11 : cfKeep 11 = [0, 1, 2, 3, 6, 8, 10] := by kernel_rfl
@[go_sem] theorem cfKeep_15 : cfKeep 15 = [0, 1, 4, 5, 6, 12, 15, 19, 28, 43, 62] := by kernel_rfl
@[go_sem] theorem cfKeep_17 : cfKeep 17 = [0, 1, 2, 3, 4, 5, 6, 7, 8, 10, 12, 13, 14, 15, 25, 28, 29, 30, 31, 35, 36, 37, 38, 55] := by kernel_rfl
@[go_sem] theorem cfKeep_18 : cfKeep 18 = [0, 1, 2, 3, 4, 5, 6, 7, 12, 25, 30, 40, 64] := by kernel_rfl
@[go_sem] theorem cfKeep_19 : cfKeep 19 = [0, 1, 2, 27] := by kernel_rfl
@[go_sem] theorem cfKeep_20 : cfKeep 20 = [0, 1, 2, 3, 4, 5, 6, 16, 21, 43, 48, 53, 54, 55, 61] := by kernel_rfl
@[go_sem] theorem cfKeep_21 : cfKeep 21 = [0, 1, 4, 5, 6, 7, 11, 15, 16, 17, 18, 33, 45, 56] := by kernel_rfl
@[go_sem] theorem cfKeep_22 : cfKeep 22 = [0, 2, 3, 5, 6, 7, 8, 9, 14] := by kernel_rfl
@[go_sem] theorem cfKeep_23 : cfKeep 23 = [0, 1, 4, 5, 6, 11, 12, 13, 16, 19] := by kernel_rfl
@[go_sem] theorem cfKeep_24 : cfKeep 24 = [0, 1, 2, 3, 4, 5, 6, 16, 20, 26, 42, 67, 76, 100, 114] := by kernel_rfl
@[go_sem] theorem cfKeep_25 : cfKeep 25 = [0, 1, 2, 3, 4] := by kernel_rfl
@[go_sem] theorem cfKeep_27 : cfKeep 27 = [0, 1, 4] := by kernel_rfl
@[go_sem] theorem cfKeep_28 : cfKeep 28 = [0, 1, 4, 5, 9, 17] := by kernel_rfl
@[go_sem] theorem cfKeep_33 : cfKeep 33 = [0, 1, 2, 4] := by kernel_rfl
@[go_sem] theorem cfKeep_34 : cfKeep 34 = [0, 1, 2, 3, 4] := by kernel_rfl
@[go_sem] theorem cfKeep_38 : cfKeep 38 = [0, 2, 3, 4, 5, 7, 9, 10, 11, 12, 16, 25, 49, 64, 77, 79, 83] := by kernel_rfl
@[go_sem] theorem cfKeep_39 : cfKeep 39 = [0, 1, 4, 5, 10, 24] := by kernel_rfl
@[go_sem] theorem cfKeep_40 : cfKeep 40 = [0, 1, 2, 3, 4] := by kernel_rfl
@[go_sem] theorem cfKeep_41 : cfKeep 41 = [0, 1, 2, 3, 4, 5, 6, 17, 18, 19, 20, 45, 47] := by kernel_rfl
@[go_sem] theorem cfKeep_42 : cfKeep 42 = [0, 1, 2, 4, 5, 6, 7, 35, 43, 52, 74, 88] := by kernel_rfl
@[go_sem] theorem cfKeep_43 : cfKeep 43 = [0, 2] := by kernel_rfl
@[go_sem] theorem cfKeep_44 : cfKeep 44 = [0, 1, 4] := by kernel_rfl
@[go_sem] theorem cfKeep_45 : cfKeep 45 = [0, 1, 2, 3, 4] := by kernel_rfl
@[go_sem] theorem cfKeep_46 : cfKeep 46 = [0, 2] := by kernel_rfl
@[go_sem] theorem cfKeep_47 : cfKeep 47 = [0, 1, 2, 3, 4, 5, 6, 7, 8, 13, 21, 30, 54, 72, 98, 119] := by kernel_rfl
@[go_sem] theorem cfKeep_48 : cfKeep 48 = [0, 1, 2, 3, 4, 9, 19, 29] := by kernel_rfl
@[go_sem] theorem cfKeep_49 : cfKeep 49 = [0, 1, 2, 3, 4, 5, 6, 7, 21, 22, 55, 95] := by kernel_rfl
@[go_sem] theorem cfKeep_50 : cfKeep 50 = [0, 1, 4, 5, 7, 8, 9, 16] := by kernel_rfl
@[go_sem] theorem cfKeep_59 : cfKeep 59 = [0, 1, 2, 3, 4] := by kernel_rfl
@[go_sem] theorem cfKeep_60 : cfKeep 60 = [0, 2, 4] := by kernel_rfl
@[go_sem] theorem cfKeep_62 : cfKeep 62 = [0, 1, 2, 3, 4] := by kernel_rfl
@[go_sem] theorem cfKeep_63 : cfKeep 63 = [0, 1, 2, 3, 4, 5, 6, 7, 8, 22, 23, 33, 54, 73] := by kernel_rfl
@[go_sem] theorem cfKeep_64 : cfKeep 64 = [0, 1, 2, 3, 4, 9, 19] := by kernel_rfl
@[go_sem] theorem cfKeep_65 : cfKeep 65 = [0, 1, 2, 4, 5] := by kernel_rfl
@[go_sem] theorem cfKeep_66 : cfKeep 66 = [0, 1, 2, 4] := by kernel_rfl
@[go_sem] theorem cfKeep_67 : cfKeep 67 = [0, 1, 2, 3, 6, 7, 8, 13, 63] := by kernel_rfl
@[go_sem] theorem cfKeep_88 : cfKeep 88 = [0, 1, 2, 3, 6, 7, 9, 32, 76] := by kernel_rfl
@[go_sem] theorem cfKeep_89 : cfKeep 89 = [0, 1, 2, 3, 6, 7, 12, 32] := by kernel_rfl
@[go_sem] theorem cfKeep_117 : cfKeep 117 = [0, 1, 2, 4, 6, 7, 8, 9, 10, 11, 17, 31] := by kernel_rfl
@[go_sem] theorem cfKeep_118 : cfKeep 118 = [0, 1, 2, 3, 4] := by kernel_rfl
@[go_sem] theorem cfLive_7_9 : cfLive 7 9 = [1, 32, 33, 34] := by kernel_rfl
@[go_sem] theorem cfLive_7_16 : cfLive 7 16 = [1, 47, 48, 49] := by kernel_rfl
@[go_sem] theorem cfLive_8_9 : cfLive 8 9 = [1, 4] := by kernel_rfl
@[go_sem] theorem cfLive_8_15 : cfLive 8 15 = [1, 6] := by kernel_rfl
@[go_sem] theorem cfLive_15_7 : cfLive 15 7 = [0, 1, 5, 6] := by kernel_rfl
@[go_sem] theorem cfLive_17_2 : cfLive 17 2 = [2, 3, 12, 13, 14] := by kernel_rfl
@[go_sem] theorem cfLive_17_8 : cfLive 17 8 = [3, 28, 29, 30] := by kernel_rfl
@[go_sem] theorem cfLive_17_11 : cfLive 17 11 = [3, 7, 28, 29, 30, 35, 36, 37] := by kernel_rfl
@[go_sem] theorem cfLive_18_2 : cfLive 18 2 = [2, 3, 5] := by kernel_rfl
@[go_sem] theorem cfLive_18_7 : cfLive 18 7 = [2, 3, 6] := by kernel_rfl
@[go_sem] theorem cfLive_18_10 : cfLive 18 10 = [2, 3, 6, 7] := by kernel_rfl
@[go_sem] theorem cfLive_20_12 : cfLive 20 12 = [1, 53, 54] := by kernel_rfl
@[go_sem] theorem cfLive_21_6 : cfLive 21 6 = [0, 1, 15, 16, 17] := by kernel_rfl
@[go_sem] theorem cfLive_22_3 : cfLive 22 3 = [3, 6, 7, 8] := by kernel_rfl
@[go_sem] theorem cfLive_24_7 : cfLive 24 7 = [1, 4] := by kernel_rfl
@[go_sem] theorem cfLive_28_2 : cfLive 28 2 = [0, 1, 5] := by kernel_rfl
@[go_sem] theorem cfLive_38_3 : cfLive 38 3 = [0, 3, 9, 10, 11] := by kernel_rfl
@[go_sem] theorem cfLive_38_16 : cfLive 38 16 = [77] := by kernel_rfl
@[go_sem] theorem cfLive_39_2 : cfLive 39 2 = [0, 1, 5] := by kernel_rfl
@[go_sem] theorem cfLive_41_4 : cfLive 41 4 = [1, 3, 17, 18, 19] := by kernel_rfl
@[go_sem] theorem cfLive_47_2 : cfLive 47 2 = [1, 3] := by kernel_rfl
@[go_sem] theorem cfLive_47_12 : cfLive 47 12 = [1, 5] := by kernel_rfl
@[go_sem] theorem cfLive_50_2 : cfLive 50 2 = [0, 1, 7, 8] := by kernel_rfl
@[go_sem] theorem cfLive_67_2 : cfLive 67 2 = [1, 2, 3, 7] := by kernel_rfl
@[go_sem] theorem cfLive_88_2 : cfLive 88 2 = [1, 2, 3, 7] := by kernel_rfl
@[go_sem] theorem cfLive_89_2 : cfLive 89 2 = [1, 2, 3, 7] := by kernel_rfl
@[go_sem] theorem cfLive_117_3 : cfLive 117 3 = [0, 2, 4, 8, 9, 10] := by kernel_rfl
@[go_sem] theorem cfOut_7_9_0 : cfOut 7 9 0 = [1] := by kernel_rfl
@[go_sem] theorem cfOut_7_16_2 : cfOut 7 16 2 = [] := by kernel_rfl
@[go_sem] theorem cfOut_8_9_0 : cfOut 8 9 0 = [1] := by kernel_rfl
@[go_sem] theorem cfOut_8_15_2 : cfOut 8 15 2 = [] := by kernel_rfl
@[go_sem] theorem cfOut_15_7_0 : cfOut 15 7 0 = [5] := by kernel_rfl
@[go_sem] theorem cfOut_17_2_0 : cfOut 17 2 0 = [2, 3] := by kernel_rfl
@[go_sem] theorem cfOut_17_8_2 : cfOut 17 8 2 = [] := by kernel_rfl
@[go_sem] theorem cfOut_17_11_4 : cfOut 17 11 4 = [3, 28, 29, 30] := by kernel_rfl
@[go_sem] theorem cfOut_17_11_3 : cfOut 17 11 3 = [3, 28, 29, 30] := by kernel_rfl
@[go_sem] theorem cfOut_17_11_2 : cfOut 17 11 2 = [] := by kernel_rfl
@[go_sem] theorem cfOut_18_2_0 : cfOut 18 2 0 = [2, 3] := by kernel_rfl
@[go_sem] theorem cfOut_18_7_2 : cfOut 18 7 2 = [] := by kernel_rfl
@[go_sem] theorem cfOut_18_10_4 : cfOut 18 10 4 = [2, 3, 6] := by kernel_rfl
@[go_sem] theorem cfOut_18_10_3 : cfOut 18 10 3 = [2, 3, 6] := by kernel_rfl
@[go_sem] theorem cfOut_18_10_2 : cfOut 18 10 2 = [] := by kernel_rfl
@[go_sem] theorem cfOut_20_12_0 : cfOut 20 12 0 = [] := by kernel_rfl
@[go_sem] theorem cfOut_21_6_1 : cfOut 21 6 1 = [0] := by kernel_rfl
@[go_sem] theorem cfOut_22_3_0 : cfOut 22 3 0 = [3] := by kernel_rfl
@[go_sem] theorem cfOut_24_7_0 : cfOut 24 7 0 = [] := by kernel_rfl
@[go_sem] theorem cfOut_28_2_0 : cfOut 28 2 0 = [] := by kernel_rfl
@[go_sem] theorem cfOut_38_3_0 : cfOut 38 3 0 = [3] := by kernel_rfl
@[go_sem] theorem cfOut_38_16_3 : cfOut 38 16 3 = [] := by kernel_rfl
@[go_sem] theorem cfOut_39_2_0 : cfOut 39 2 0 = [] := by kernel_rfl
@[go_sem] theorem cfOut_41_4_0 : cfOut 41 4 0 = [] := by kernel_rfl
@[go_sem] theorem cfOut_47_2_0 : cfOut 47 2 0 = [1] := by kernel_rfl
@[go_sem] theorem cfOut_47_12_3 : cfOut 47 12 3 = [1] := by kernel_rfl
@[go_sem] theorem cfOut_50_2_0 : cfOut 50 2 0 = [] := by kernel_rfl
@[go_sem] theorem cfOut_67_2_0 : cfOut 67 2 0 = [] := by kernel_rfl
@[go_sem] theorem cfOut_88_2_0 : cfOut 88 2 0 = [] := by kernel_rfl
@[go_sem] theorem cfOut_89_2_0 : cfOut 89 2 0 = [] := by kernel_rfl
@[go_sem] theorem cfOut_117_3_0 : cfOut 117 3 0 = [0, 2, 4, 8, 9] := by kernel_rfl
@[go_sem] theorem cfRes_3 : cfRes 3 = [2] := by kernel_rfl
@[go_sem] theorem cfRes_4 : cfRes 4 = [6] := by kernel_rfl
@[go_sem] theorem cfRes_6 : cfRes 6 = [4] := by kernel_rfl
@[go_sem] theorem cfRes_7 : cfRes 7 = [2] := by kernel_rfl
@[go_sem] theorem cfRes_8 : cfRes 8 = [2] := by kernel_rfl
@[go_sem] theorem cfRes_10 : cfRes 10 = [6] := by kernel_rfl
@[go_sem] theorem cfRes_11 : cfRes 11 = [6] := by kernel_rfl
@[go_sem] theorem cfRes_15 : cfRes 15 = [4] := by kernel_rfl
@[go_sem] theorem cfRes_17 : cfRes 17 = [4] := by kernel_rfl
@[go_sem] theorem cfRes_18 : cfRes 18 = [4] := by kernel_rfl
@[go_sem] theorem cfRes_19 : cfRes 19 = [0] := by kernel_rfl
@[go_sem] theorem cfRes_20 : cfRes 20 = [2] := by kernel_rfl
@[go_sem] theorem cfRes_21 : cfRes 21 = [4] := by kernel_rfl
@[go_sem] theorem cfRes_22 : cfRes 22 = [2] := by kernel_rfl
@[go_sem] theorem cfRes_23 : cfRes 23 = [4] := by kernel_rfl
@[go_sem] theorem cfRes_24 : cfRes 24 = [2] := by kernel_rfl
@[go_sem] theorem cfRes_25 : cfRes 25 = [4] := by kernel_rfl
@[go_sem] theorem cfRes_27 : cfRes 27 = [4] := by kernel_rfl
@[go_sem] theorem cfRes_28 : cfRes 28 = [4] := by kernel_rfl
@[go_sem] theorem cfRes_33 : cfRes 33 = [4] := by kernel_rfl
@[go_sem] theorem cfRes_34 : cfRes 34 = [4] := by kernel_rfl
@[go_sem] theorem cfRes_38 : cfRes 38 = [2] := by kernel_rfl
@[go_sem] theorem cfRes_39 : cfRes 39 = [4] := by kernel_rfl
@[go_sem] theorem cfRes_40 : cfRes 40 = [4] := by kernel_rfl
@[go_sem] theorem cfRes_41 : cfRes 41 = [2] := by kernel_rfl
@[go_sem] theorem cfRes_42 : cfRes 42 = [4] := by kernel_rfl
@[go_sem] theorem cfRes_43 : cfRes 43 = [2] := by kernel_rfl
@[go_sem] theorem cfRes_44 : cfRes 44 = [4] := by kernel_rfl
@[go_sem] theorem cfRes_45 : cfRes 45 = [4] := by kernel_rfl
@[go_sem] theorem cfRes_46 : cfRes 46 = [2] := by kernel_rfl
@[go_sem] theorem cfRes_47 : cfRes 47 = [2] := by kernel_rfl
@[go_sem] theorem cfRes_48 : cfRes 48 = [4] := by kernel_rfl
@[go_sem] theorem cfRes_49 : cfRes 49 = [4] := by kernel_rfl
@[go_sem] theorem cfRes_50 : cfRes 50 = [4] := by kernel_rfl
@[go_sem] theorem cfRes_59 : cfRes 59 = [4] := by kernel_rfl
@[go_sem] theorem cfRes_60 : cfRes 60 = [2] := by kernel_rfl
@[go_sem] theorem cfRes_62 : cfRes 62 = [4] := by kernel_rfl
@[go_sem] theorem cfRes_63 : cfRes 63 = [4] := by kernel_rfl
@[go_sem] theorem cfRes_64 : cfRes 64 = [4] := by kernel_rfl
@[go_sem] theorem cfRes_65 : cfRes 65 = [4, 5] := by kernel_rfl
@[go_sem] theorem cfRes_66 : cfRes 66 = [4] := by kernel_rfl
@[go_sem] theorem cfRes_67 : cfRes 67 = [6] := by kernel_rfl
@[go_sem] theorem cfRes_88 : cfRes 88 = [6] := by kernel_rfl
@[go_sem] theorem cfRes_89 : cfRes 89 = [6] := by kernel_rfl
@[go_sem] theorem cfRes_117 : cfRes 117 = [6, 7] := by kernel_rfl
@[go_sem] theorem cfRes_118 : cfRes 118 = [4] := by kernel_rfl
@[go_sem] theorem cfVars_15 : cfVars 15 = [] := by kernel_rfl
@[go_sem] theorem cfVars_19 : cfVars 19 = [] := by kernel_rfl
@[go_sem] theorem cfVars_22 : cfVars 22 = [] := by kernel_rfl
@[go_sem] theorem cfVars_23 : cfVars 23 = [] := by kernel_rfl
@[go_sem] theorem cfVars_27 : cfVars 27 = [] := by kernel_rfl
@[go_sem] theorem cfVars_28 : cfVars 28 = [] := by kernel_rfl
@[go_sem] theorem cfVars_39 : cfVars 39 = [] := by kernel_rfl
@[go_sem] theorem cfVars_43 : cfVars 43 = [] := by kernel_rfl
@[go_sem] theorem cfVars_44 : cfVars 44 = [] := by kernel_rfl
@[go_sem] theorem cfVars_46 : cfVars 46 = [] := by kernel_rfl
@[go_sem] theorem cfVars_50 : cfVars 50 = [] := by kernel_rfl
@[go_sem] theorem cfVars_60 : cfVars 60 = [] := by kernel_rfl
@[go_sem] theorem ag3 : aggT Try.prog 3 = some false := by kernel_rfl
@[go_sem] theorem sz3 : szOf Try.prog 3 = some 1 := by kernel_rfl
@[go_sem] theorem un3 : Try.prog.underlying 3 = some (.int .i64) := by kernel_rfl
@[go_sem] theorem ze3 : zeroOf Try.prog 3 = some (.int .i64 (0)) := by kernel_rfl
@[go_sem] theorem zk3 : zeroOk Try.prog 3 1 = true := by kernel_rfl
@[go_sem] theorem ag4 : aggT Try.prog 4 = some false := by kernel_rfl
@[go_sem] theorem sz4 : szOf Try.prog 4 = some 1 := by kernel_rfl
@[go_sem] theorem un4 : Try.prog.underlying 4 = some .bool := by kernel_rfl
@[go_sem] theorem ze4 : zeroOf Try.prog 4 = some (.bool false) := by kernel_rfl
@[go_sem] theorem zk4 : zeroOk Try.prog 4 1 = true := by kernel_rfl
@[go_sem] theorem ag5 : aggT Try.prog 5 = some false := by kernel_rfl
@[go_sem] theorem sz5 : szOf Try.prog 5 = some 1 := by kernel_rfl
@[go_sem] theorem un5 : Try.prog.underlying 5 = some (.int .u8) := by kernel_rfl
@[go_sem] theorem ze5 : zeroOf Try.prog 5 = some (.int .u8 (0)) := by kernel_rfl
@[go_sem] theorem zk5 : zeroOk Try.prog 5 1 = true := by kernel_rfl
@[go_sem] theorem el22 : elemT Try.prog 22 = some (90, 3, 24) := by kernel_rfl
@[go_sem] theorem ag22 : aggT Try.prog 22 = some false := by kernel_rfl
@[go_sem] theorem sz22 : szOf Try.prog 22 = some 1 := by kernel_rfl
@[go_sem] theorem un22 : Try.prog.underlying 22 = some (.slice 90) := by kernel_rfl
@[go_sem] theorem ze22 : zeroOf Try.prog 22 = some (.list true 0 []) := by kernel_rfl
@[go_sem] theorem zk22 : zeroOk Try.prog 22 1 = true := by kernel_rfl
@[go_sem] theorem el23 : elemT Try.prog 23 = some (93, 4, 32) := by kernel_rfl
@[go_sem] theorem ag23 : aggT Try.prog 23 = some false := by kernel_rfl
@[go_sem] theorem sz23 : szOf Try.prog 23 = some 1 := by kernel_rfl
@[go_sem] theorem un23 : Try.prog.underlying 23 = some (.slice 93) := by kernel_rfl
@[go_sem] theorem ze23 : zeroOf Try.prog 23 = some (.list true 0 []) := by kernel_rfl
@[go_sem] theorem zk23 : zeroOk Try.prog 23 1 = true := by kernel_rfl
@[go_sem] theorem ag25 : aggT Try.prog 25 = some true := by kernel_rfl
@[go_sem] theorem sz25 : szOf Try.prog 25 = some 3 := by kernel_rfl
@[go_sem] theorem fi25_0 : fieldT Try.prog 25 0 = some (0, 1, 22) := by kernel_rfl
@[go_sem] theorem fi25_1 : fieldT Try.prog 25 1 = some (1, 1, 23) := by kernel_rfl
@[go_sem] theorem fi25_2 : fieldT Try.prog 25 2 = some (2, 1, 3) := by kernel_rfl
@[go_sem] theorem bu25 {ps : List (Nat × AV)} : buildA Try.prog 25 ps = (fillA (fun i => ([some (0, 1), some (1, 1), some (2, 1)][i]?).join) [(.list true 0 []), (.list true 0 []), (.int .i64 (0))] ps).map .agg := buildA_struct (by kernel_rfl)
@[go_sem] theorem ze25 : zeroOf Try.prog 25 = some (.agg [(.list true 0 []), (.list true 0 []), (.int .i64 (0))]) := by kernel_rfl
@[go_sem] theorem zk25 : zeroOk Try.prog 25 3 = true := by kernel_rfl
@[go_sem] theorem el26 : elemT Try.prog 26 = some (45, 1, 24) := by kernel_rfl
@[go_sem] theorem ag26 : aggT Try.prog 26 = some false := by kernel_rfl
@[go_sem] theorem sz26 : szOf Try.prog 26 = some 1 := by kernel_rfl
@[go_sem] theorem un26 : Try.prog.underlying 26 = some (.slice 45) := by kernel_rfl
@[go_sem] theorem ze26 : zeroOf Try.prog 26 = some (.list true 0 []) := by kernel_rfl
@[go_sem] theorem zk26 : zeroOk Try.prog 26 1 = true := by kernel_rfl
@[go_sem] theorem el27 : elemT Try.prog 27 = some (52, 2, 16) := by kernel_rfl
@[go_sem] theorem ag27 : aggT Try.prog 27 = some false := by kernel_rfl
@[go_sem] theorem sz27 : szOf Try.prog 27 = some 1 := by kernel_rfl
@[go_sem] theorem un27 : Try.prog.underlying 27 = some (.slice 52) := by kernel_rfl
@[go_sem] theorem ze27 : zeroOf Try.prog 27 = some (.list true 0 []) := by kernel_rfl
@[go_sem] theorem zk27 : zeroOk Try.prog 27 1 = true := by kernel_rfl
@[go_sem] theorem ag29 : aggT Try.prog 29 = some true := by kernel_rfl
@[go_sem] theorem sz29 : szOf Try.prog 29 = some 6 := by kernel_rfl
@[go_sem] theorem fi29_0 : fieldT Try.prog 29 0 = some (0, 3, 25) := by kernel_rfl
@[go_sem] theorem fi29_1 : fieldT Try.prog 29 1 = some (3, 1, 3) := by kernel_rfl
@[go_sem] theorem fi29_2 : fieldT Try.prog 29 2 = some (4, 1, 26) := by kernel_rfl
@[go_sem] theorem fi29_3 : fieldT Try.prog 29 3 = some (5, 1, 27) := by kernel_rfl
@[go_sem] theorem bu29 {ps : List (Nat × AV)} : buildA Try.prog 29 ps = (fillA (fun i => ([some (0, 3), some (3, 1), some (4, 1), some (5, 1)][i]?).join) [(.list true 0 []), (.list true 0 []), (.int .i64 (0)), (.int .i64 (0)), (.list true 0 []), (.list true 0 [])] ps).map .agg := buildA_struct (by kernel_rfl)
@[go_sem] theorem ze29 : zeroOf Try.prog 29 = some (.agg [(.list true 0 []), (.list true 0 []), (.int .i64 (0)), (.int .i64 (0)), (.list true 0 []), (.list true 0 [])]) := by kernel_rfl
@[go_sem] theorem zk29 : zeroOk Try.prog 29 6 = true := by kernel_rfl
@[go_sem] theorem ag30 : aggT Try.prog 30 = some false := by kernel_rfl
@[go_sem] theorem sz30 : szOf Try.prog 30 = some 1 := by kernel_rfl
@[go_sem] theorem un30 : Try.prog.underlying 30 = some (.int .i64) := by kernel_rfl
@[go_sem] theorem ze30 : zeroOf Try.prog 30 = some (.int .i64 (0)) := by kernel_rfl
@[go_sem] theorem zk30 : zeroOk Try.prog 30 1 = true := by kernel_rfl
@[go_sem] theorem el34 : elemT Try.prog 34 = some (4, 1, 1) := by kernel_rfl
@[go_sem] theorem ag34 : aggT Try.prog 34 = some false := by kernel_rfl
@[go_sem] theorem sz34 : szOf Try.prog 34 = some 1 := by kernel_rfl
@[go_sem] theorem un34 : Try.prog.underlying 34 = some (.slice 4) := by kernel_rfl
@[go_sem] theorem ze34 : zeroOf Try.prog 34 = some (.list true 0 []) := by kernel_rfl
@[go_sem] theorem zk34 : zeroOk Try.prog 34 1 = true := by kernel_rfl
@[go_sem] theorem el35 : elemT Try.prog 35 = some (57, 1, 24) := by kernel_rfl
@[go_sem] theorem ag35 : aggT Try.prog 35 = some false := by kernel_rfl
@[go_sem] theorem sz35 : szOf Try.prog 35 = some 1 := by kernel_rfl
@[go_sem] theorem un35 : Try.prog.underlying 35 = some (.slice 57) := by kernel_rfl
@[go_sem] theorem ze35 : zeroOf Try.prog 35 = some (.list true 0 []) := by kernel_rfl
@[go_sem] theorem zk35 : zeroOk Try.prog 35 1 = true := by kernel_rfl
@[go_sem] theorem ag37 : aggT Try.prog 37 = some true := by kernel_rfl
@[go_sem] theorem sz37 : szOf Try.prog 37 = some 2 := by kernel_rfl
@[go_sem] theorem fi37_0 : fieldT Try.prog 37 0 = some (0, 1, 34) := by kernel_rfl
@[go_sem] theorem fi37_1 : fieldT Try.prog 37 1 = some (1, 1, 35) := by kernel_rfl
@[go_sem] theorem bu37 {ps : List (Nat × AV)} : buildA Try.prog 37 ps = (fillA (fun i => ([some (0, 1), some (1, 1)][i]?).join) [(.list true 0 []), (.list true 0 [])] ps).map .agg := buildA_struct (by kernel_rfl)
@[go_sem] theorem ze37 : zeroOf Try.prog 37 = some (.agg [(.list true 0 []), (.list true 0 [])]) := by kernel_rfl
@[go_sem] theorem zk37 : zeroOk Try.prog 37 2 = true := by kernel_rfl
@[go_sem] theorem ag39 : aggT Try.prog 39 = some false := by kernel_rfl
@[go_sem] theorem sz39 : szOf Try.prog 39 = some 1 := by kernel_rfl
@[go_sem] theorem un39 : Try.prog.underlying 39 = some (.int .u64) := by kernel_rfl
@[go_sem] theorem ze39 : zeroOf Try.prog 39 = some (.int .u64 (0)) := by kernel_rfl
@[go_sem] theorem zk39 : zeroOk Try.prog 39 1 = true := by kernel_rfl
@[go_sem] theorem ag41 : aggT Try.prog 41 = some true := by kernel_rfl
@[go_sem] theorem sz41 : szOf Try.prog 41 = some 2 := by kernel_rfl
@[go_sem] theorem fi41_0 : fieldT Try.prog 41 0 = some (0, 1, 3) := by kernel_rfl
@[go_sem] theorem fi41_1 : fieldT Try.prog 41 1 = some (1, 1, 3) := by kernel_rfl
@[go_sem] theorem bu41 {ps : List (Nat × AV)} : buildA Try.prog 41 ps = (fillA (fun i => ([some (0, 1), some (1, 1)][i]?).join) [(.int .i64 (0)), (.int .i64 (0))] ps).map .agg := buildA_struct (by kernel_rfl)
@[go_sem] theorem ze41 : zeroOf Try.prog 41 = some (.agg [(.int .i64 (0)), (.int .i64 (0))]) := by kernel_rfl
@[go_sem] theorem zk41 : zeroOk Try.prog 41 2 = true := by kernel_rfl
@[go_sem] theorem el44 : elemT Try.prog 44 = some (41, 2, 16) := by kernel_rfl
@[go_sem] theorem ag44 : aggT Try.prog 44 = some false := by kernel_rfl
@[go_sem] theorem sz44 : szOf Try.prog 44 = some 1 := by kernel_rfl
@[go_sem] theorem un44 : Try.prog.underlying 44 = some (.slice 41) := by kernel_rfl
@[go_sem] theorem ze44 : zeroOf Try.prog 44 = some (.list true 0 []) := by kernel_rfl
@[go_sem] theorem zk44 : zeroOk Try.prog 44 1 = true := by kernel_rfl
@[go_sem] theorem el45 : elemT Try.prog 45 = some (41, 2, 16) := by kernel_rfl
@[go_sem] theorem ag45 : aggT Try.prog 45 = some false := by kernel_rfl
@[go_sem] theorem sz45 : szOf Try.prog 45 = some 1 := by kernel_rfl
@[go_sem] theorem un45 : Try.prog.underlying 45 = some (.slice 41) := by kernel_rfl
@[go_sem] theorem ze45 : zeroOf Try.prog 45 = some (.list true 0 []) := by kernel_rfl
@[go_sem] theorem zk45 : zeroOk Try.prog 45 1 = true := by kernel_rfl
@[go_sem] theorem ag52 : aggT Try.prog 52 = some true := by kernel_rfl
@[go_sem] theorem sz52 : szOf Try.prog 52 = some 2 := by kernel_rfl
@[go_sem] theorem fi52_0 : fieldT Try.prog 52 0 = some (0, 1, 3) := by kernel_rfl
@[go_sem] theorem fi52_1 : fieldT Try.prog 52 1 = some (1, 1, 3) := by kernel_rfl
@[go_sem] theorem bu52 {ps : List (Nat × AV)} : buildA Try.prog 52 ps = (fillA (fun i => ([some (0, 1), some (1, 1)][i]?).join) [(.int .i64 (0)), (.int .i64 (0))] ps).map .agg := buildA_struct (by kernel_rfl)
@[go_sem] theorem ze52 : zeroOf Try.prog 52 = some (.agg [(.int .i64 (0)), (.int .i64 (0))]) := by kernel_rfl
@[go_sem] theorem zk52 : zeroOk Try.prog 52 2 = true := by kernel_rfl
@[go_sem] theorem el57 : elemT Try.prog 57 = some (3, 1, 8) := by kernel_rfl
@[go_sem] theorem ag57 : aggT Try.prog 57 = some false := by kernel_rfl
@[go_sem] theorem sz57 : szOf Try.prog 57 = some 1 := by kernel_rfl
@[go_sem] theorem un57 : Try.prog.underlying 57 = some (.slice 3) := by kernel_rfl
@[go_sem] theorem ze57 : zeroOf Try.prog 57 = some (.list true 0 []) := by kernel_rfl
@[go_sem] theorem zk57 : zeroOk Try.prog 57 1 = true := by kernel_rfl
@[go_sem] theorem ag59 : aggT Try.prog 59 = some false := by kernel_rfl
@[go_sem] theorem sz59 : szOf Try.prog 59 = some 1 := by kernel_rfl
@[go_sem] theorem un59 : Try.prog.underlying 59 = some (.pointer 75) := by kernel_rfl
@[go_sem] theorem ze59 : zeroOf Try.prog 59 = some .nilp := by kernel_rfl
@[go_sem] theorem zk59 : zeroOk Try.prog 59 1 = true := by kernel_rfl
@[go_sem] theorem ag62 : aggT Try.prog 62 = some false := by kernel_rfl
@[go_sem] theorem sz62 : szOf Try.prog 62 = some 1 := by kernel_rfl
@[go_sem] theorem un62 : Try.prog.underlying 62 = some (.map 77 4) := by kernel_rfl
@[go_sem] theorem ze62 : zeroOf Try.prog 62 = some (.map none) := by kernel_rfl
@[go_sem] theorem zk62 : zeroOk Try.prog 62 1 = true := by kernel_rfl
@[go_sem] theorem lm62 : lowMapOk Try.prog 62 = some (77, 4) := by kernel_rfl
@[go_sem] theorem el63 : elemT Try.prog 63 = some (77, 3, 24) := by kernel_rfl
@[go_sem] theorem ag63 : aggT Try.prog 63 = some false := by kernel_rfl
@[go_sem] theorem sz63 : szOf Try.prog 63 = some 1 := by kernel_rfl
@[go_sem] theorem un63 : Try.prog.underlying 63 = some (.slice 77) := by kernel_rfl
@[go_sem] theorem ze63 : zeroOf Try.prog 63 = some (.list true 0 []) := by kernel_rfl
@[go_sem] theorem zk63 : zeroOk Try.prog 63 1 = true := by kernel_rfl
@[go_sem] theorem ag65 : aggT Try.prog 65 = some true := by kernel_rfl
@[go_sem] theorem sz65 : szOf Try.prog 65 = some 2 := by kernel_rfl
@[go_sem] theorem fi65_0 : fieldT Try.prog 65 0 = some (0, 1, 62) := by kernel_rfl
@[go_sem] theorem fi65_1 : fieldT Try.prog 65 1 = some (1, 1, 63) := by kernel_rfl
@[go_sem] theorem bu65 {ps : List (Nat × AV)} : buildA Try.prog 65 ps = (fillA (fun i => ([some (0, 1), some (1, 1)][i]?).join) [(.map none), (.list true 0 [])] ps).map .agg := buildA_struct (by kernel_rfl)
@[go_sem] theorem ze65 : zeroOf Try.prog 65 = some (.agg [(.map none), (.list true 0 [])]) := by kernel_rfl
@[go_sem] theorem zk65 : zeroOk Try.prog 65 2 = true := by kernel_rfl
@[go_sem] theorem ag66 : aggT Try.prog 66 = some false := by kernel_rfl
@[go_sem] theorem sz66 : szOf Try.prog 66 = some 1 := by kernel_rfl
@[go_sem] theorem un66 : Try.prog.underlying 66 = some (.map 3 3) := by kernel_rfl
@[go_sem] theorem ze66 : zeroOf Try.prog 66 = some (.map none) := by kernel_rfl
@[go_sem] theorem zk66 : zeroOk Try.prog 66 1 = true := by kernel_rfl
@[go_sem] theorem lm66 : lowMapOk Try.prog 66 = some (3, 3) := by kernel_rfl
@[go_sem] theorem ag67 : aggT Try.prog 67 = some false := by kernel_rfl
@[go_sem] theorem sz67 : szOf Try.prog 67 = some 1 := by kernel_rfl
@[go_sem] theorem un67 : Try.prog.underlying 67 = some (.map 3 57) := by kernel_rfl
@[go_sem] theorem ze67 : zeroOf Try.prog 67 = some (.map none) := by kernel_rfl
@[go_sem] theorem zk67 : zeroOk Try.prog 67 1 = true := by kernel_rfl
@[go_sem] theorem lm67 : lowMapOk Try.prog 67 = some (3, 57) := by kernel_rfl
@[go_sem] theorem ag68 : aggT Try.prog 68 = some false := by kernel_rfl
@[go_sem] theorem sz68 : szOf Try.prog 68 = some 1 := by kernel_rfl
@[go_sem] theorem un68 : Try.prog.underlying 68 = some (.map 144 182) := by kernel_rfl
@[go_sem] theorem ze68 : zeroOf Try.prog 68 = some (.map none) := by kernel_rfl
@[go_sem] theorem zk68 : zeroOk Try.prog 68 1 = true := by kernel_rfl
@[go_sem] theorem lm68 : lowMapOk Try.prog 68 = some (144, 182) := by kernel_rfl
@[go_sem] theorem ag70 : aggT Try.prog 70 = some true := by kernel_rfl
@[go_sem] theorem sz70 : szOf Try.prog 70 = some 1 := by kernel_rfl
@[go_sem] theorem fi70_0 : fieldT Try.prog 70 0 = some (0, 1, 68) := by kernel_rfl
@[go_sem] theorem bu70 {ps : List (Nat × AV)} : buildA Try.prog 70 ps = (fillA (fun i => ([some (0, 1)][i]?).join) [(.map none)] ps).map .agg := buildA_struct (by kernel_rfl)
@[go_sem] theorem ze70 : zeroOf Try.prog 70 = some (.agg [(.map none)]) := by kernel_rfl
@[go_sem] theorem zk70 : zeroOk Try.prog 70 1 = true := by kernel_rfl
@[go_sem] theorem ag71 : aggT Try.prog 71 = some false := by kernel_rfl
@[go_sem] theorem sz71 : szOf Try.prog 71 = some 1 := by kernel_rfl
@[go_sem] theorem un71 : Try.prog.underlying 71 = some (.map 144 176) := by kernel_rfl
@[go_sem] theorem ze71 : zeroOf Try.prog 71 = some (.map none) := by kernel_rfl
@[go_sem] theorem zk71 : zeroOk Try.prog 71 1 = true := by kernel_rfl
@[go_sem] theorem lm71 : lowMapOk Try.prog 71 = some (144, 176) := by kernel_rfl
@[go_sem] theorem ag73 : aggT Try.prog 73 = some true := by kernel_rfl
@[go_sem] theorem sz73 : szOf Try.prog 73 = some 1 := by kernel_rfl
@[go_sem] theorem fi73_0 : fieldT Try.prog 73 0 = some (0, 1, 71) := by kernel_rfl
@[go_sem] theorem bu73 {ps : List (Nat × AV)} : buildA Try.prog 73 ps = (fillA (fun i => ([some (0, 1)][i]?).join) [(.map none)] ps).map .agg := buildA_struct (by kernel_rfl)
@[go_sem] theorem ze73 : zeroOf Try.prog 73 = some (.agg [(.map none)]) := by kernel_rfl
@[go_sem] theorem zk73 : zeroOk Try.prog 73 1 = true := by kernel_rfl
@[go_sem] theorem ag75 : aggT Try.prog 75 = some true := by kernel_rfl
@[go_sem] theorem sz75 : szOf Try.prog 75 = some 13 := by kernel_rfl
@[go_sem] theorem fi75_0 : fieldT Try.prog 75 0 = some (0, 6, 29) := by kernel_rfl
@[go_sem] theorem fi75_1 : fieldT Try.prog 75 1 = some (6, 1, 35) := by kernel_rfl
@[go_sem] theorem fi75_2 : fieldT Try.prog 75 2 = some (7, 1, 66) := by kernel_rfl
@[go_sem] theorem fi75_3 : fieldT Try.prog 75 3 = some (8, 1, 67) := by kernel_rfl
@[go_sem] theorem fi75_4 : fieldT Try.prog 75 4 = some (9, 2, 65) := by kernel_rfl
@[go_sem] theorem fi75_5 : fieldT Try.prog 75 5 = some (11, 1, 70) := by kernel_rfl
@[go_sem] theorem fi75_6 : fieldT Try.prog 75 6 = some (12, 1, 73) := by kernel_rfl
@[go_sem] theorem bu75 {ps : List (Nat × AV)} : buildA Try.prog 75 ps = (fillA (fun i => ([some (0, 6), some (6, 1), some (7, 1), some (8, 1), some (9, 2), some (11, 1), some (12, 1)][i]?).join) [(.list true 0 []), (.list true 0 []), (.int .i64 (0)), (.int .i64 (0)), (.list true 0 []), (.list true 0 []), (.list true 0 []), (.map none), (.map none), (.map none), (.list true 0 []), (.map none), (.map none)] ps).map .agg := buildA_struct (by kernel_rfl)
@[go_sem] theorem ze75 : zeroOf Try.prog 75 = some (.agg [(.list true 0 []), (.list true 0 []), (.int .i64 (0)), (.int .i64 (0)), (.list true 0 []), (.list true 0 []), (.list true 0 []), (.map none), (.map none), (.map none), (.list true 0 []), (.map none), (.map none)]) := by kernel_rfl
@[go_sem] theorem zk75 : zeroOk Try.prog 75 13 = true := by kernel_rfl
@[go_sem] theorem ag77 : aggT Try.prog 77 = some true := by kernel_rfl
@[go_sem] theorem sz77 : szOf Try.prog 77 = some 3 := by kernel_rfl
@[go_sem] theorem fi77_0 : fieldT Try.prog 77 0 = some (0, 1, 3) := by kernel_rfl
@[go_sem] theorem fi77_1 : fieldT Try.prog 77 1 = some (1, 1, 3) := by kernel_rfl
@[go_sem] theorem fi77_2 : fieldT Try.prog 77 2 = some (2, 1, 3) := by kernel_rfl
@[go_sem] theorem bu77 {ps : List (Nat × AV)} : buildA Try.prog 77 ps = (fillA (fun i => ([some (0, 1), some (1, 1), some (2, 1)][i]?).join) [(.int .i64 (0)), (.int .i64 (0)), (.int .i64 (0))] ps).map .agg := buildA_struct (by kernel_rfl)
@[go_sem] theorem ze77 : zeroOf Try.prog 77 = some (.agg [(.int .i64 (0)), (.int .i64 (0)), (.int .i64 (0))]) := by kernel_rfl
@[go_sem] theorem zk77 : zeroOk Try.prog 77 3 = true := by kernel_rfl
@[go_sem] theorem ag87 : aggT Try.prog 87 = some true := by kernel_rfl
@[go_sem] theorem sz87 : szOf Try.prog 87 = some 2 := by kernel_rfl
@[go_sem] theorem fi87_0 : fieldT Try.prog 87 0 = some (0, 1, 57) := by kernel_rfl
@[go_sem] theorem fi87_1 : fieldT Try.prog 87 1 = some (1, 1, 57) := by kernel_rfl
@[go_sem] theorem bu87 {ps : List (Nat × AV)} : buildA Try.prog 87 ps = (fillA (fun i => ([some (0, 1), some (1, 1)][i]?).join) [(.list true 0 []), (.list true 0 [])] ps).map .agg := buildA_struct (by kernel_rfl)
@[go_sem] theorem ze87 : zeroOf Try.prog 87 = some (.agg [(.list true 0 []), (.list true 0 [])]) := by kernel_rfl
@[go_sem] theorem zk87 : zeroOk Try.prog 87 2 = true := by kernel_rfl
@[go_sem] theorem ag90 : aggT Try.prog 90 = some true := by kernel_rfl
@[go_sem] theorem sz90 : szOf Try.prog 90 = some 3 := by kernel_rfl
@[go_sem] theorem fi90_0 : fieldT Try.prog 90 0 = some (0, 1, 3) := by kernel_rfl
@[go_sem] theorem fi90_1 : fieldT Try.prog 90 1 = some (1, 1, 3) := by kernel_rfl
@[go_sem] theorem fi90_2 : fieldT Try.prog 90 2 = some (2, 1, 3) := by kernel_rfl
@[go_sem] theorem bu90 {ps : List (Nat × AV)} : buildA Try.prog 90 ps = (fillA (fun i => ([some (0, 1), some (1, 1), some (2, 1)][i]?).join) [(.int .i64 (0)), (.int .i64 (0)), (.int .i64 (0))] ps).map .agg := buildA_struct (by kernel_rfl)
@[go_sem] theorem ze90 : zeroOf Try.prog 90 = some (.agg [(.int .i64 (0)), (.int .i64 (0)), (.int .i64 (0))]) := by kernel_rfl
@[go_sem] theorem zk90 : zeroOk Try.prog 90 3 = true := by kernel_rfl
@[go_sem] theorem ag93 : aggT Try.prog 93 = some true := by kernel_rfl
@[go_sem] theorem sz93 : szOf Try.prog 93 = some 4 := by kernel_rfl
@[go_sem] theorem fi93_0 : fieldT Try.prog 93 0 = some (0, 1, 3) := by kernel_rfl
@[go_sem] theorem fi93_1 : fieldT Try.prog 93 1 = some (1, 1, 3) := by kernel_rfl
@[go_sem] theorem fi93_2 : fieldT Try.prog 93 2 = some (2, 1, 3) := by kernel_rfl
@[go_sem] theorem fi93_3 : fieldT Try.prog 93 3 = some (3, 1, 3) := by kernel_rfl
@[go_sem] theorem bu93 {ps : List (Nat × AV)} : buildA Try.prog 93 ps = (fillA (fun i => ([some (0, 1), some (1, 1), some (2, 1), some (3, 1)][i]?).join) [(.int .i64 (0)), (.int .i64 (0)), (.int .i64 (0)), (.int .i64 (0))] ps).map .agg := buildA_struct (by kernel_rfl)
@[go_sem] theorem ze93 : zeroOf Try.prog 93 = some (.agg [(.int .i64 (0)), (.int .i64 (0)), (.int .i64 (0)), (.int .i64 (0))]) := by kernel_rfl
@[go_sem] theorem zk93 : zeroOk Try.prog 93 4 = true := by kernel_rfl
@[go_sem] theorem ag94 : aggT Try.prog 94 = some false := by kernel_rfl
@[go_sem] theorem sz94 : szOf Try.prog 94 = some 1 := by kernel_rfl
@[go_sem] theorem ze94 : zeroOf Try.prog 94 = some .nilf := by kernel_rfl
@[go_sem] theorem zk94 : zeroOk Try.prog 94 1 = true := by kernel_rfl
@[go_sem] theorem ag122 : aggT Try.prog 122 = some false := by kernel_rfl
@[go_sem] theorem sz122 : szOf Try.prog 122 = some 1 := by kernel_rfl
@[go_sem] theorem un122 : Try.prog.underlying 122 = some (.int .i64) := by kernel_rfl
@[go_sem] theorem ze122 : zeroOf Try.prog 122 = some (.int .i64 (0)) := by kernel_rfl
@[go_sem] theorem zk122 : zeroOk Try.prog 122 1 = true := by kernel_rfl
@[go_sem] theorem ag130 : aggT Try.prog 130 = some false := by kernel_rfl
@[go_sem] theorem sz130 : szOf Try.prog 130 = some 1 := by kernel_rfl
@[go_sem] theorem un130 : Try.prog.underlying 130 = some (.int .u32) := by kernel_rfl
@[go_sem] theorem ze130 : zeroOf Try.prog 130 = some (.int .u32 (0)) := by kernel_rfl
@[go_sem] theorem zk130 : zeroOk Try.prog 130 1 = true := by kernel_rfl
@[go_sem] theorem ag132 : aggT Try.prog 132 = some false := by kernel_rfl
@[go_sem] theorem sz132 : szOf Try.prog 132 = some 1 := by kernel_rfl
@[go_sem] theorem un132 : Try.prog.underlying 132 = some (.int .u64) := by kernel_rfl
@[go_sem] theorem ze132 : zeroOf Try.prog 132 = some (.int .u64 (0)) := by kernel_rfl
@[go_sem] theorem zk132 : zeroOk Try.prog 132 1 = true := by kernel_rfl
@[go_sem] theorem ag134 : aggT Try.prog 134 = some true := by kernel_rfl
@[go_sem] theorem sz134 : szOf Try.prog 134 = some 2 := by kernel_rfl
@[go_sem] theorem fi134_0 : fieldT Try.prog 134 0 = some (0, 1, 3) := by kernel_rfl
@[go_sem] theorem fi134_1 : fieldT Try.prog 134 1 = some (1, 1, 57) := by kernel_rfl
@[go_sem] theorem bu134 {ps : List (Nat × AV)} : buildA Try.prog 134 ps = (fillA (fun i => ([some (0, 1), some (1, 1)][i]?).join) [(.int .i64 (0)), (.list true 0 [])] ps).map .agg := buildA_struct (by kernel_rfl)
@[go_sem] theorem ze134 : zeroOf Try.prog 134 = some (.agg [(.int .i64 (0)), (.list true 0 [])]) := by kernel_rfl
@[go_sem] theorem zk134 : zeroOk Try.prog 134 2 = true := by kernel_rfl
@[go_sem] theorem ag144 : aggT Try.prog 144 = some true := by kernel_rfl
@[go_sem] theorem sz144 : szOf Try.prog 144 = some 2 := by kernel_rfl
@[go_sem] theorem fi144_0 : fieldT Try.prog 144 0 = some (0, 1, 3) := by kernel_rfl
@[go_sem] theorem fi144_1 : fieldT Try.prog 144 1 = some (1, 1, 3) := by kernel_rfl
@[go_sem] theorem bu144 {ps : List (Nat × AV)} : buildA Try.prog 144 ps = (fillA (fun i => ([some (0, 1), some (1, 1)][i]?).join) [(.int .i64 (0)), (.int .i64 (0))] ps).map .agg := buildA_struct (by kernel_rfl)
@[go_sem] theorem ze144 : zeroOf Try.prog 144 = some (.agg [(.int .i64 (0)), (.int .i64 (0))]) := by kernel_rfl
@[go_sem] theorem zk144 : zeroOk Try.prog 144 2 = true := by kernel_rfl
@[go_sem] theorem ag146 : aggT Try.prog 146 = some true := by kernel_rfl
@[go_sem] theorem sz146 : szOf Try.prog 146 = some 2 := by kernel_rfl
@[go_sem] theorem fi146_0 : fieldT Try.prog 146 0 = some (0, 1, 3) := by kernel_rfl
@[go_sem] theorem fi146_1 : fieldT Try.prog 146 1 = some (1, 1, 3) := by kernel_rfl
@[go_sem] theorem bu146 {ps : List (Nat × AV)} : buildA Try.prog 146 ps = (fillA (fun i => ([some (0, 1), some (1, 1)][i]?).join) [(.int .i64 (0)), (.int .i64 (0))] ps).map .agg := buildA_struct (by kernel_rfl)
@[go_sem] theorem ze146 : zeroOf Try.prog 146 = some (.agg [(.int .i64 (0)), (.int .i64 (0))]) := by kernel_rfl
@[go_sem] theorem zk146 : zeroOk Try.prog 146 2 = true := by kernel_rfl
@[go_sem] theorem el148 : elemT Try.prog 148 = some (151, 2, 16) := by kernel_rfl
@[go_sem] theorem ag148 : aggT Try.prog 148 = some false := by kernel_rfl
@[go_sem] theorem sz148 : szOf Try.prog 148 = some 1 := by kernel_rfl
@[go_sem] theorem un148 : Try.prog.underlying 148 = some (.slice 151) := by kernel_rfl
@[go_sem] theorem ze148 : zeroOf Try.prog 148 = some (.list true 0 []) := by kernel_rfl
@[go_sem] theorem zk148 : zeroOk Try.prog 148 1 = true := by kernel_rfl
@[go_sem] theorem ag151 : aggT Try.prog 151 = some true := by kernel_rfl
@[go_sem] theorem sz151 : szOf Try.prog 151 = some 2 := by kernel_rfl
@[go_sem] theorem fi151_0 : fieldT Try.prog 151 0 = some (0, 1, 3) := by kernel_rfl
@[go_sem] theorem fi151_1 : fieldT Try.prog 151 1 = some (1, 1, 3) := by kernel_rfl
@[go_sem] theorem bu151 {ps : List (Nat × AV)} : buildA Try.prog 151 ps = (fillA (fun i => ([some (0, 1), some (1, 1)][i]?).join) [(.int .i64 (0)), (.int .i64 (0))] ps).map .agg := buildA_struct (by kernel_rfl)
@[go_sem] theorem ze151 : zeroOf Try.prog 151 = some (.agg [(.int .i64 (0)), (.int .i64 (0))]) := by kernel_rfl
@[go_sem] theorem zk151 : zeroOk Try.prog 151 2 = true := by kernel_rfl
@[go_sem] theorem el154 : elemT Try.prog 154 = some (146, 2, 16) := by kernel_rfl
@[go_sem] theorem ag154 : aggT Try.prog 154 = some false := by kernel_rfl
@[go_sem] theorem sz154 : szOf Try.prog 154 = some 1 := by kernel_rfl
@[go_sem] theorem un154 : Try.prog.underlying 154 = some (.slice 146) := by kernel_rfl
@[go_sem] theorem ze154 : zeroOf Try.prog 154 = some (.list true 0 []) := by kernel_rfl
@[go_sem] theorem zk154 : zeroOk Try.prog 154 1 = true := by kernel_rfl
@[go_sem] theorem ag157 : aggT Try.prog 157 = some false := by kernel_rfl
@[go_sem] theorem sz157 : szOf Try.prog 157 = some 1 := by kernel_rfl
@[go_sem] theorem ze157 : zeroOf Try.prog 157 = some .nilf := by kernel_rfl
@[go_sem] theorem zk157 : zeroOk Try.prog 157 1 = true := by kernel_rfl
@[go_sem] theorem ag158 : aggT Try.prog 158 = some false := by kernel_rfl
@[go_sem] theorem sz158 : szOf Try.prog 158 = some 1 := by kernel_rfl
@[go_sem] theorem un158 : Try.prog.underlying 158 = some (.int .u64) := by kernel_rfl
@[go_sem] theorem ze158 : zeroOf Try.prog 158 = some (.int .u64 (0)) := by kernel_rfl
@[go_sem] theorem zk158 : zeroOk Try.prog 158 1 = true := by kernel_rfl
@[go_sem] theorem ag162 : aggT Try.prog 162 = some false := by kernel_rfl
@[go_sem] theorem sz162 : szOf Try.prog 162 = some 1 := by kernel_rfl
@[go_sem] theorem un162 : Try.prog.underlying 162 = some (.pointer 3) := by kernel_rfl
@[go_sem] theorem ze162 : zeroOf Try.prog 162 = some .nilp := by kernel_rfl
@[go_sem] theorem zk162 : zeroOk Try.prog 162 1 = true := by kernel_rfl
@[go_sem] theorem ag176 : aggT Try.prog 176 = some false := by kernel_rfl
@[go_sem] theorem sz176 : szOf Try.prog 176 = some 1 := by kernel_rfl
@[go_sem] theorem un176 : Try.prog.underlying 176 = some (.pointer 179) := by kernel_rfl
@[go_sem] theorem ze176 : zeroOf Try.prog 176 = some .nilp := by kernel_rfl
@[go_sem] theorem zk176 : zeroOk Try.prog 176 1 = true := by kernel_rfl
@[go_sem] theorem ag177 : aggT Try.prog 177 = some false := by kernel_rfl
@[go_sem] theorem sz177 : szOf Try.prog 177 = some 1 := by kernel_rfl
@[go_sem] theorem un177 : Try.prog.underlying 177 = some (.map 146 4) := by kernel_rfl
@[go_sem] theorem ze177 : zeroOf Try.prog 177 = some (.map none) := by kernel_rfl
@[go_sem] theorem zk177 : zeroOk Try.prog 177 1 = true := by kernel_rfl
@[go_sem] theorem lm177 : lowMapOk Try.prog 177 = some (146, 4) := by kernel_rfl
@[go_sem] theorem ag179 : aggT Try.prog 179 = some true := by kernel_rfl
@[go_sem] theorem sz179 : szOf Try.prog 179 = some 2 := by kernel_rfl
@[go_sem] theorem fi179_0 : fieldT Try.prog 179 0 = some (0, 1, 177) := by kernel_rfl
@[go_sem] theorem fi179_1 : fieldT Try.prog 179 1 = some (1, 1, 154) := by kernel_rfl
@[go_sem] theorem bu179 {ps : List (Nat × AV)} : buildA Try.prog 179 ps = (fillA (fun i => ([some (0, 1), some (1, 1)][i]?).join) [(.map none), (.list true 0 [])] ps).map .agg := buildA_struct (by kernel_rfl)
@[go_sem] theorem ze179 : zeroOf Try.prog 179 = some (.agg [(.map none), (.list true 0 [])]) := by kernel_rfl
@[go_sem] theorem zk179 : zeroOk Try.prog 179 2 = true := by kernel_rfl
@[go_sem] theorem ag182 : aggT Try.prog 182 = some false := by kernel_rfl
@[go_sem] theorem sz182 : szOf Try.prog 182 = some 1 := by kernel_rfl
@[go_sem] theorem un182 : Try.prog.underlying 182 = some (.pointer 185) := by kernel_rfl
@[go_sem] theorem ze182 : zeroOf Try.prog 182 = some .nilp := by kernel_rfl
@[go_sem] theorem zk182 : zeroOk Try.prog 182 1 = true := by kernel_rfl
@[go_sem] theorem ag183 : aggT Try.prog 183 = some false := by kernel_rfl
@[go_sem] theorem sz183 : szOf Try.prog 183 = some 1 := by kernel_rfl
@[go_sem] theorem un183 : Try.prog.underlying 183 = some (.map 151 4) := by kernel_rfl
@[go_sem] theorem ze183 : zeroOf Try.prog 183 = some (.map none) := by kernel_rfl
@[go_sem] theorem zk183 : zeroOk Try.prog 183 1 = true := by kernel_rfl
@[go_sem] theorem lm183 : lowMapOk Try.prog 183 = some (151, 4) := by kernel_rfl
@[go_sem] theorem ag185 : aggT Try.prog 185 = some true := by kernel_rfl
@[go_sem] theorem sz185 : szOf Try.prog 185 = some 2 := by kernel_rfl
@[go_sem] theorem fi185_0 : fieldT Try.prog 185 0 = some (0, 1, 183) := by kernel_rfl
@[go_sem] theorem fi185_1 : fieldT Try.prog 185 1 = some (1, 1, 148) := by kernel_rfl
@[go_sem] theorem bu185 {ps : List (Nat × AV)} : buildA Try.prog 185 ps = (fillA (fun i => ([some (0, 1), some (1, 1)][i]?).join) [(.map none), (.list true 0 [])] ps).map .agg := buildA_struct (by kernel_rfl)
@[go_sem] theorem ze185 : zeroOf Try.prog 185 = some (.agg [(.map none), (.list true 0 [])]) := by kernel_rfl
@[go_sem] theorem zk185 : zeroOk Try.prog 185 2 = true := by kernel_rfl

end Go.Can
