/- Closed facts of the best way and of playing; no program in sight. -/
import Derived.Test.YtdlfinaklnegkaaPlayPlain
namespace Go.Proofs.Ytdlfinaklnegkaa
theorem sort12 : sortI [1, 2] = [1, 2] := sortI_of (.refl _) (by decide)
theorem sort13 : sortI [1, 3] = [1, 3] := sortI_of (.refl _) (by decide)
theorem sort32 : sortI [3, 2] = [2, 3] := sortI_of (by decide) (by decide)
theorem opt_fact : optF 2 [] [1, 2, 3, 1, 3, 2] = ([false, false, false, true, true, false], [2, 1], [2, 3]) := by
  simp [optF, pickO, bestIx, sort12, sort13, sort32, List.idxOf_cons]
theorem play_fact : playA 2 [] [2] [1, 2, 3, 1] 0 = (3, [1, 3], 0) := by
  have e : ([1, 2] : List Int).erase 2 = [1] := by decide
  simp [playA, sort13, e]
end Go.Proofs.Ytdlfinaklnegkaa
