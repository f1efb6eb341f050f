/- More facts of the tables. -/
import Derived.Test.YtjmljgajhkbciaaGreatIfdsA
set_option linter.unusedSimpArgs false
set_option linter.unusedVariables false
namespace Go.Can
open Go Go.Proofs

@[go_sem] theorem cfVars_4 : cfVars 4 = [2, 3] := by kernel_rfl
@[go_sem] theorem cfVars_6 : cfVars 6 = [1] := by kernel_rfl
@[go_sem] theorem cfVars_11 : cfVars 11 = [2, 3] := by kernel_rfl
@[go_sem] theorem cfVars_12 : cfVars 12 = [2, 3] := by kernel_rfl
@[go_sem] theorem cfVars_16 : cfVars 16 = [3, 7] := by kernel_rfl
@[go_sem] theorem cfVars_19 : cfVars 19 = [3, 7] := by kernel_rfl
@[go_sem] theorem cfVars_23 : cfVars 23 = [2, 7] := by kernel_rfl
@[go_sem] theorem cfVars_24 : cfVars 24 = [4] := by kernel_rfl
@[go_sem] theorem cfVars_26 : cfVars 26 = [2] := by kernel_rfl
@[go_sem] theorem cfVars_27 : cfVars 27 = [4] := by kernel_rfl
@[go_sem] theorem cfVars_36 : cfVars 36 = [3, 6, 8] := by kernel_rfl
@[go_sem] theorem cfVars_41 : cfVars 41 = [3, 6, 8] := by kernel_rfl
@[go_sem] theorem cfVars_44 : cfVars 44 = [3] := by kernel_rfl
@[go_sem] theorem cfVars_58 : cfVars 58 = [2, 4] := by kernel_rfl
@[go_sem] theorem cfVars_59 : cfVars 59 = [2, 3] := by kernel_rfl
@[go_sem] theorem cfVars_60 : cfVars 60 = [2, 3, 4] := by kernel_rfl
@[go_sem] theorem cfVars_68 : cfVars 68 = [2, 4] := by kernel_rfl
@[go_sem] theorem cfVars_69 : cfVars 69 = [3, 4, 6, 8] := by kernel_rfl
@[go_sem] theorem cfVars_70 : cfVars 70 = [3] := by kernel_rfl
@[go_sem] theorem cfVars_79 : cfVars 79 = [1] := by kernel_rfl
@[go_sem] theorem cfKeep_4 : cfKeep 4 = [0, 1, 2, 3, 4, 13] := by kernel_rfl
@[go_sem] theorem cfKeep_6 : cfKeep 6 = [0, 1, 2, 3, 32, 37, 46] := by kernel_rfl
@[go_sem] theorem cfKeep_11 : cfKeep 11 = [0, 1, 2, 3, 4, 5, 6, 8, 9, 10, 14, 23, 33, 36, 37, 38, 39, 49, 68, 70, 71, 72, 73, 91] := by kernel_rfl
@[go_sem] theorem cfKeep_12 : cfKeep 12 = [0, 1, 2, 3, 4, 5, 6, 7, 8, 12, 21, 31, 37, 55, 73, 78, 99] := by kernel_rfl
@[go_sem] theorem cfKeep_16 : cfKeep 16 = [0, 1, 2, 3, 6, 8] := by kernel_rfl
@[go_sem] theorem cfKeep_19 : cfKeep 19 = [0, 1, 2, 3, 6, 8] := by kernel_rfl
@[go_sem] theorem cfKeep_23 : cfKeep 23 = [0, 1, 2, 4, 5, 7, 9, 10, 11, 12, 18] := by kernel_rfl
@[go_sem] theorem cfKeep_24 : cfKeep 24 = [0, 1, 2, 3, 4, 8, 17] := by kernel_rfl
@[go_sem] theorem cfKeep_26 : cfKeep 26 = [0, 1, 2, 4, 5, 6, 11, 21] := by kernel_rfl
@[go_sem] theorem cfKeep_27 : cfKeep 27 = [0, 1, 2, 3, 4, 8, 9, 17, 43] := by kernel_rfl
@[go_sem] theorem cfKeep_36 : cfKeep 36 = [0, 1, 2, 3, 6, 7, 8, 9, 11, 19, 24, 26, 27, 28, 29, 32, 43, 54] := by kernel_rfl
@[go_sem] theorem cfKeep_41 : cfKeep 41 = [0, 1, 2, 3, 6, 7, 8, 9, 10, 18, 23, 28, 42] := by kernel_rfl
@[go_sem] theorem cfKeep_44 : cfKeep 44 = [0, 1, 3, 4] := by kernel_rfl
@[go_sem] theorem cfKeep_58 : cfKeep 58 = [0, 1, 2, 4, 5, 6, 10, 21] := by kernel_rfl
@[go_sem] theorem cfKeep_59 : cfKeep 59 = [0, 1, 2, 3, 4, 5] := by kernel_rfl
@[go_sem] theorem cfKeep_60 : cfKeep 60 = [0, 1, 2, 3, 4, 5, 9, 25] := by kernel_rfl
@[go_sem] theorem cfKeep_68 : cfKeep 68 = [0, 1, 2, 4, 5, 6, 10, 21] := by kernel_rfl
@[go_sem] theorem cfKeep_69 : cfKeep 69 = [0, 1, 2, 3, 4, 6, 7, 8, 9, 18, 29, 32, 33, 46, 64] := by kernel_rfl
@[go_sem] theorem cfKeep_70 : cfKeep 70 = [0, 1, 3, 4, 5, 7, 8, 9, 16] := by kernel_rfl
@[go_sem] theorem cfKeep_79 : cfKeep 79 = [0, 1, 2] := by kernel_rfl
@[go_sem] theorem cfLive_6_4 : cfLive 6 4 = [1, 3] := by kernel_rfl
@[go_sem] theorem cfLive_11_10 : cfLive 11 10 = [2, 3, 36, 37, 38] := by kernel_rfl
@[go_sem] theorem cfLive_11_18 : cfLive 11 18 = [2, 3, 70, 71, 72] := by kernel_rfl
@[go_sem] theorem cfLive_12_10 : cfLive 12 10 = [2, 3, 7] := by kernel_rfl
@[go_sem] theorem cfLive_12_17 : cfLive 12 17 = [2, 3, 8] := by kernel_rfl
@[go_sem] theorem cfLive_23_3 : cfLive 23 3 = [1, 5, 9, 10, 11] := by kernel_rfl
@[go_sem] theorem cfLive_26_3 : cfLive 26 3 = [1, 2, 5, 6] := by kernel_rfl
@[go_sem] theorem cfLive_27_2 : cfLive 27 2 = [1, 2, 3, 4, 9] := by kernel_rfl
@[go_sem] theorem cfLive_36_7 : cfLive 36 7 = [3, 6, 8, 26, 27, 28] := by kernel_rfl
@[go_sem] theorem cfLive_41_7 : cfLive 41 7 = [2, 3, 6, 8, 10] := by kernel_rfl
@[go_sem] theorem cfLive_70_2 : cfLive 70 2 = [0, 3, 7, 8] := by kernel_rfl
@[go_sem] theorem cfOut_6_4_0 : cfOut 6 4 0 = [] := by kernel_rfl
@[go_sem] theorem cfOut_11_10_0 : cfOut 11 10 0 = [2, 3] := by kernel_rfl
@[go_sem] theorem cfOut_11_18_2 : cfOut 11 18 2 = [] := by kernel_rfl
@[go_sem] theorem cfOut_12_10_0 : cfOut 12 10 0 = [2, 3] := by kernel_rfl
@[go_sem] theorem cfOut_12_17_2 : cfOut 12 17 2 = [] := by kernel_rfl
@[go_sem] theorem cfOut_23_3_0 : cfOut 23 3 0 = [5] := by kernel_rfl
@[go_sem] theorem cfOut_26_3_0 : cfOut 26 3 0 = [5] := by kernel_rfl
@[go_sem] theorem cfOut_27_2_0 : cfOut 27 2 0 = [1, 2, 3, 4] := by kernel_rfl
@[go_sem] theorem cfOut_36_7_0 : cfOut 36 7 0 = [6, 8] := by kernel_rfl
@[go_sem] theorem cfOut_41_7_0 : cfOut 41 7 0 = [6, 8] := by kernel_rfl
@[go_sem] theorem cfOut_70_2_0 : cfOut 70 2 0 = [] := by kernel_rfl
@[go_sem] theorem cfRes_4 : cfRes 4 = [4] := by kernel_rfl
@[go_sem] theorem cfRes_6 : cfRes 6 = [2] := by kernel_rfl
@[go_sem] theorem cfRes_11 : cfRes 11 = [4] := by kernel_rfl
@[go_sem] theorem cfRes_12 : cfRes 12 = [4] := by kernel_rfl
@[go_sem] theorem cfRes_16 : cfRes 16 = [6] := by kernel_rfl
@[go_sem] theorem cfRes_19 : cfRes 19 = [6] := by kernel_rfl
@[go_sem] theorem cfRes_23 : cfRes 23 = [4] := by kernel_rfl
@[go_sem] theorem cfRes_24 : cfRes 24 = [8] := by kernel_rfl
@[go_sem] theorem cfRes_26 : cfRes 26 = [4] := by kernel_rfl
@[go_sem] theorem cfRes_27 : cfRes 27 = [8] := by kernel_rfl
@[go_sem] theorem cfRes_36 : cfRes 36 = [6, 7] := by kernel_rfl
@[go_sem] theorem cfRes_41 : cfRes 41 = [6, 7] := by kernel_rfl
@[go_sem] theorem cfRes_44 : cfRes 44 = [4] := by kernel_rfl
@[go_sem] theorem cfRes_58 : cfRes 58 = [4, 5] := by kernel_rfl
@[go_sem] theorem cfRes_59 : cfRes 59 = [4] := by kernel_rfl
@[go_sem] theorem cfRes_60 : cfRes 60 = [4] := by kernel_rfl
@[go_sem] theorem cfRes_68 : cfRes 68 = [4, 5] := by kernel_rfl
@[go_sem] theorem cfRes_69 : cfRes 69 = [6, 7] := by kernel_rfl
@[go_sem] theorem cfRes_70 : cfRes 70 = [4] := by kernel_rfl
@[go_sem] theorem cfRes_79 : cfRes 79 = [2] := by kernel_rfl

end Go.Can
