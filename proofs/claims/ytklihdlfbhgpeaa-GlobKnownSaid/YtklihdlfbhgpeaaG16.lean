/-
  The walk of works: the chapter's rows.
-/
import Derived.Test.YtklihdlfbhgpeaaG15
namespace Go.Proofs.Ytklihdlfbhgpeaa
open Go.RowKit
set_option linter.unusedVariables false

set_option maxRecDepth 100000 in
set_option maxHeartbeats 4000000 in
theorem works_any (w : World) : Calls Try.prog 13 #[] w fun e w' => e = .returned (.bool true) ∧ Below w.heap.size w w' := by
  have hB0 : Below w.heap.size w w := Below.refl _ _
  go_enter Try.func13, Try.ntmps13
  go_wp2_with fail
  refine (bare_any [97, 42, 99] (by decide) _).mono ?_
  rintro e wa0 ⟨Ba0, rfl, hp0, ha0⟩
  have hc0 := hB0.trans (ha0.mono hB0.size)
  go_wp2_with fail
  refine (rows_lits [[97, 99], [97, 98, 98, 99]] [[97], [97, 99, 98]] hp0 (by decide) (by kernel_rfl)).mono ?_
  rintro e wb0 ⟨rfl, hb0⟩
  have hd0 := hc0.trans (hb0.mono hc0.size)
  clear hp0 ha0 hc0 hb0
  go_wp2_with fail
  refine (bare_any [42] (by decide) _).mono ?_
  rintro e wa1 ⟨Ba1, rfl, hp1, ha1⟩
  have hc1 := hd0.trans (ha1.mono hd0.size)
  go_wp2_with fail
  refine (rows_yes [[], [120, 47, 121]] hp1 (by decide) (by kernel_rfl)).mono ?_
  rintro e wb1 ⟨rfl, hb1⟩
  have hd1 := hc1.trans (hb1.mono hc1.size)
  clear hp1 ha1 hc1 hb1
  go_wp2_with fail
  refine (bare_any [63] (by decide) _).mono ?_
  rintro e wa2 ⟨Ba2, rfl, hp2, ha2⟩
  have hc2 := hd1.trans (ha2.mono hd1.size)
  go_wp2_with fail
  refine (rows_lits [[120], [63]] [[], [120, 121]] hp2 (by decide) (by kernel_rfl)).mono ?_
  rintro e wb2 ⟨rfl, hb2⟩
  have hd2 := hc2.trans (hb2.mono hc2.size)
  clear hp2 ha2 hc2 hb2
  go_wp2_with fail
  refine (bare_any [91, 97, 45, 99, 93, 120] (by decide) _).mono ?_
  rintro e wa3 ⟨Ba3, rfl, hp3, ha3⟩
  have hc3 := hd2.trans (ha3.mono hd2.size)
  go_wp2_with fail
  refine (rows_lits [[97, 120], [99, 120]] [[100, 120]] hp3 (by decide) (by kernel_rfl)).mono ?_
  rintro e wb3 ⟨rfl, hb3⟩
  have hd3 := hc3.trans (hb3.mono hc3.size)
  clear hp3 ha3 hc3 hb3
  go_wp2_with fail
  refine (bare_any [91, 33, 97, 93, 120] (by decide) _).mono ?_
  rintro e wa4 ⟨Ba4, rfl, hp4, ha4⟩
  have hc4 := hd3.trans (ha4.mono hd3.size)
  go_wp2_with fail
  refine (rows_lits [[98, 120]] [[97, 120]] hp4 (by decide) (by kernel_rfl)).mono ?_
  rintro e wb4 ⟨rfl, hb4⟩
  have hd4 := hc4.trans (hb4.mono hc4.size)
  clear hp4 ha4 hc4 hb4
  go_wp2_with fail
  refine (bare_any [91, 93, 97, 93] (by decide) _).mono ?_
  rintro e wa5 ⟨Ba5, rfl, hp5, ha5⟩
  have hc5 := hd4.trans (ha5.mono hd4.size)
  go_wp2_with fail
  refine (rows_lits [[93], [97]] [[91]] hp5 (by decide) (by kernel_rfl)).mono ?_
  rintro e wb5 ⟨rfl, hb5⟩
  have hd5 := hc5.trans (hb5.mono hc5.size)
  clear hp5 ha5 hc5 hb5
  go_wp2_with fail
  refine (bare_any [91, 97, 45, 93] (by decide) _).mono ?_
  rintro e wa6 ⟨Ba6, rfl, hp6, ha6⟩
  have hc6 := hd5.trans (ha6.mono hd5.size)
  go_wp2_with fail
  refine (rows_lits [[97], [45]] [[98]] hp6 (by decide) (by kernel_rfl)).mono ?_
  rintro e wb6 ⟨rfl, hb6⟩
  have hd6 := hc6.trans (hb6.mono hc6.size)
  clear hp6 ha6 hc6 hb6
  go_wp2_with fail
  refine (bare_any [91, 45, 97, 93] (by decide) _).mono ?_
  rintro e wa7 ⟨Ba7, rfl, hp7, ha7⟩
  have hc7 := hd6.trans (ha7.mono hd6.size)
  go_wp2_with fail
  refine (rows_lits [[97], [45]] [[98]] hp7 (by decide) (by kernel_rfl)).mono ?_
  rintro e wb7 ⟨rfl, hb7⟩
  have hd7 := hc7.trans (hb7.mono hc7.size)
  clear hp7 ha7 hc7 hb7
  go_wp2_with fail
  refine (three_any [] [42] [97] (by decide) (by decide) (by decide) _).mono ?_
  rintro e wa8 ⟨Ba8, rfl, hp8, ha8⟩
  have hc8 := hd7.trans (ha8.mono hd7.size)
  go_wp2_with fail
  refine (rows_lits [[42, 97]] [[120, 97]] hp8 (by decide) (by kernel_rfl)).mono ?_
  rintro e wb8 ⟨rfl, hb8⟩
  have hd8 := hc8.trans (hb8.mono hc8.size)
  clear hp8 ha8 hc8 hb8
  go_wp2_with fail
  refine (three_any [91, 97] [45] [99, 93] (by decide) (by decide) (by decide) _).mono ?_
  rintro e wa9 ⟨Ba9, rfl, hp9, ha9⟩
  have hc9 := hd8.trans (ha9.mono hd8.size)
  go_wp2_with fail
  refine (rows_lits [[97], [45], [99]] [[98]] hp9 (by decide) (by kernel_rfl)).mono ?_
  rintro e wb9 ⟨rfl, hb9⟩
  have hd9 := hc9.trans (hb9.mono hc9.size)
  clear hp9 ha9 hc9 hb9
  go_wp2_with fail
  refine (bare_any [91, 97] (by decide) _).mono ?_
  rintro e wa10 ⟨Ba10, rfl, hp10, ha10⟩
  have hc10 := hd9.trans (ha10.mono hd9.size)
  go_wp2_with fail
  refine (rows_lits [[91, 97]] [[97]] hp10 (by decide) (by kernel_rfl)).mono ?_
  rintro e wb10 ⟨rfl, hb10⟩
  have hd10 := hc10.trans (hb10.mono hc10.size)
  clear hp10 ha10 hc10 hb10
  go_wp2_with fail
  refine (three_any [97, 91] [93] [93] (by decide) (by decide) (by decide) _).mono ?_
  rintro e wa11 ⟨Ba11, rfl, hp11, ha11⟩
  have hc11 := hd10.trans (ha11.mono hd10.size)
  go_wp2_with fail
  refine (rows_lits [[97, 93]] [[97, 91]] hp11 (by decide) (by kernel_rfl)).mono ?_
  rintro e wb11 ⟨rfl, hb11⟩
  have hd11 := hc11.trans (hb11.mono hc11.size)
  clear hp11 ha11 hc11 hb11
  go_wp2_with fail
  go_ret
  exact ⟨rfl, hd11⟩
end Go.Proofs.Ytklihdlfbhgpeaa
