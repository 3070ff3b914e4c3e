/-
  The walk of GlobKnown: the chapter's examples, and others.
-/
import Derived.Test.YtklihdlfbhgpeaaG16
namespace Go.Proofs.Ytklihdlfbhgpeaa
open Go.RowKit
set_option linter.unusedVariables false

theorem pat_nil (w : World) : Pat w none [] := ⟨Rc.nil, by simp, by simp, by simp [chs]⟩
/-- Twelve times *a, and *b; forty times a. -/
def manyP : List UInt8 := (List.replicate 12 [42, 97]).flatten ++ [42, 98]
def manyS : List UInt8 := List.replicate 40 97
theorem many_pieces : pieces (chs [⟨manyP, false, false⟩]) = (pieces (chs [⟨manyP, false, false⟩])).take 25 ++ [.lit 98] := by kernel_rfl
theorem many_no : rowsOk [⟨manyP, false, false⟩] [] [manyS] = true := by
  have h : matchP (pieces (chs [⟨manyP, false, false⟩])) manyS = false := by
    rw [← Bool.not_eq_true]
    intro hm
    rw [many_pieces] at hm
    exact absurd (matchP_last 98 _ _ hm) (by decide)
  simp [rowsOk, h]

set_option maxRecDepth 100000 in
set_option maxHeartbeats 8000000 in
theorem globKnown_walk (w : World) : Calls Try.prog 9 #[] w fun e w' => e = .returned (.bool true) ∧ Below w.heap.size w w' := by
  go_enter Try.func9, Try.ntmps9
  go_wp2_with fail
  refine (works_any _).mono ?_
  rintro e w0 ⟨rfl, hB0⟩
  go_wp2_with fail
  refine (bare_any [91, 94, 97, 45, 99, 93] (by decide) _).mono ?_
  rintro e wa0 ⟨Ba0, rfl, hp0, ha0⟩
  have hc0 := hB0.trans (ha0.mono hB0.size)
  go_wp2_with fail
  refine (rows_lits [[100], [94], [33]] [[97], [], [100, 100]] hp0 (by decide) (by kernel_rfl)).mono ?_
  rintro e wb0 ⟨rfl, hb0⟩
  have hd0 := hc0.trans (hb0.mono hc0.size)
  clear hp0 ha0 hc0 hb0
  go_wp2_with fail
  refine (bare_any [91, 99, 45, 97, 93] (by decide) _).mono ?_
  rintro e wa1 ⟨Ba1, rfl, hp1, ha1⟩
  have hc1 := hd0.trans (ha1.mono hd0.size)
  go_wp2_with fail
  refine (rows_no [[97], [98], [99], [45]] hp1 (by decide) (by kernel_rfl)).mono ?_
  rintro e wb1 ⟨rfl, hb1⟩
  have hd1 := hc1.trans (hb1.mono hc1.size)
  clear hp1 ha1 hc1 hb1
  go_wp2_with fail
  refine (bare_any [91, 97, 45, 99, 45, 101, 93] (by decide) _).mono ?_
  rintro e wa2 ⟨Ba2, rfl, hp2, ha2⟩
  have hc2 := hd1.trans (ha2.mono hd1.size)
  go_wp2_with fail
  refine (rows_lits [[97], [98], [99], [45], [101]] [[100]] hp2 (by decide) (by kernel_rfl)).mono ?_
  rintro e wb2 ⟨rfl, hb2⟩
  have hd2 := hc2.trans (hb2.mono hc2.size)
  clear hp2 ha2 hc2 hb2
  go_wp2_with fail
  refine (bare_any [91, 33, 93, 93] (by decide) _).mono ?_
  rintro e wa3 ⟨Ba3, rfl, hp3, ha3⟩
  have hc3 := hd2.trans (ha3.mono hd2.size)
  go_wp2_with fail
  refine (rows_lits [[97], [91]] [[93]] hp3 (by decide) (by kernel_rfl)).mono ?_
  rintro e wb3 ⟨rfl, hb3⟩
  have hd3 := hc3.trans (hb3.mono hc3.size)
  clear hp3 ha3 hc3 hb3
  go_wp2_with fail
  refine (bare_any [91, 93] (by decide) _).mono ?_
  rintro e wa4 ⟨Ba4, rfl, hp4, ha4⟩
  have hc4 := hd3.trans (ha4.mono hd3.size)
  go_wp2_with fail
  refine (rows_lits [[91, 93]] [[93]] hp4 (by decide) (by kernel_rfl)).mono ?_
  rintro e wb4 ⟨rfl, hb4⟩
  have hd4 := hc4.trans (hb4.mono hc4.size)
  clear hp4 ha4 hc4 hb4
  go_wp2_with fail
  refine (bare_any [91, 33, 93] (by decide) _).mono ?_
  rintro e wa5 ⟨Ba5, rfl, hp5, ha5⟩
  have hc5 := hd4.trans (ha5.mono hd4.size)
  go_wp2_with fail
  refine (rows_lits [[91, 33, 93]] [[97]] hp5 (by decide) (by kernel_rfl)).mono ?_
  rintro e wb5 ⟨rfl, hb5⟩
  have hd5 := hc5.trans (hb5.mono hc5.size)
  clear hp5 ha5 hc5 hb5
  go_wp2_with fail
  refine (bare_any [91, 91, 93] (by decide) _).mono ?_
  rintro e wa6 ⟨Ba6, rfl, hp6, ha6⟩
  have hc6 := hd5.trans (ha6.mono hd5.size)
  go_wp2_with fail
  refine (rows_lits [[91]] [[93]] hp6 (by decide) (by kernel_rfl)).mono ?_
  rintro e wb6 ⟨rfl, hb6⟩
  have hd6 := hc6.trans (hb6.mono hc6.size)
  clear hp6 ha6 hc6 hb6
  go_wp2_with fail
  refine (three_any [] [91] [97, 93] (by decide) (by decide) (by decide) _).mono ?_
  rintro e wa7 ⟨Ba7, rfl, hp7, ha7⟩
  have hc7 := hd6.trans (ha7.mono hd6.size)
  go_wp2_with fail
  refine (rows_lits [[91, 97, 93]] [[97]] hp7 (by decide) (by kernel_rfl)).mono ?_
  rintro e wb7 ⟨rfl, hb7⟩
  have hd7 := hc7.trans (hb7.mono hc7.size)
  clear hp7 ha7 hc7 hb7
  go_wp2_with fail
  refine (three_any [91] [33] [97, 93] (by decide) (by decide) (by decide) _).mono ?_
  rintro e wa8 ⟨Ba8, rfl, hp8, ha8⟩
  have hc8 := hd7.trans (ha8.mono hd7.size)
  go_wp2_with fail
  refine (rows_lits [[33], [97]] [[98]] hp8 (by decide) (by kernel_rfl)).mono ?_
  rintro e wb8 ⟨rfl, hb8⟩
  have hd8 := hc8.trans (hb8.mono hc8.size)
  clear hp8 ha8 hc8 hb8
  go_wp2_with fail
  refine (bare_any [42, 97, 42, 98, 42] (by decide) _).mono ?_
  rintro e wa9 ⟨Ba9, rfl, hp9, ha9⟩
  have hc9 := hd8.trans (ha9.mono hd8.size)
  go_wp2_with fail
  refine (rows_lits [[97, 98], [120, 97, 121, 98, 122]] [[98, 97]] hp9 (by decide) (by kernel_rfl)).mono ?_
  rintro e wb9 ⟨rfl, hb9⟩
  have hd9 := hc9.trans (hb9.mono hc9.size)
  clear hp9 ha9 hc9 hb9
  go_wp2_with fail
  refine (bare_any [42, 42, 42] (by decide) _).mono ?_
  rintro e wa10 ⟨Ba10, rfl, hp10, ha10⟩
  have hc10 := hd9.trans (ha10.mono hd9.size)
  go_wp2_with fail
  refine (rows_yes [[], [97, 98, 99]] hp10 (by decide) (by kernel_rfl)).mono ?_
  rintro e wb10 ⟨rfl, hb10⟩
  have hd10 := hc10.trans (hb10.mono hc10.size)
  clear hp10 ha10 hc10 hb10
  go_wp2_with fail
  refine (bare_any [97, 63, 99, 42] (by decide) _).mono ?_
  rintro e wa11 ⟨Ba11, rfl, hp11, ha11⟩
  have hc11 := hd10.trans (ha11.mono hd10.size)
  go_wp2_with fail
  refine (rows_lits [[97, 98, 99], [97, 47, 99, 100]] [[97, 99]] hp11 (by decide) (by kernel_rfl)).mono ?_
  rintro e wb11 ⟨rfl, hb11⟩
  have hd11 := hc11.trans (hb11.mono hc11.size)
  clear hp11 ha11 hc11 hb11
  go_wp2_with fail
  refine (rows_lits (A := none) (c := 0) [[]] [[97]] (pat_nil _) (by decide) (by kernel_rfl)).mono ?_
  rintro e wb12 ⟨rfl, hb12⟩
  have hd12 := hd11.trans (hb12.mono hd11.size)
  clear hb12
  go_wp2_with fail
  refine (bare_any [91, 42, 93, 120] (by decide) _).mono ?_
  rintro e wa13 ⟨Ba13, rfl, hp13, ha13⟩
  have hc13 := hd12.trans (ha13.mono hd12.size)
  go_wp2_with fail
  refine (rows_lits [[42, 120]] [[97, 120]] hp13 (by decide) (by kernel_rfl)).mono ?_
  rintro e wb13 ⟨rfl, hb13⟩
  have hd13 := hc13.trans (hb13.mono hc13.size)
  clear hp13 ha13 hc13 hb13
  go_wp2_with fail
  refine (bare_any [91, 97] (by decide) _).mono ?_
  rintro e wa14 ⟨Ba14, rfl, hp14, ha14⟩
  have hc14 := hd13.trans (ha14.mono hd13.size)
  have hm14 := magic_any (some ⟨Ba14, 0, none⟩) 1 _ _ hp14
  rw [show magicL (chs [⟨[91, 97], false, false⟩]) = false from by kernel_rfl] at hm14
  clear hp14 ha14
  go_wp2_with fail
  refine hm14.mono ?_
  rintro e wb14 ⟨rfl, hb14⟩
  have hd14 := hc14.trans (hb14.mono hc14.size)
  clear hm14 hc14 hb14
  go_wp2_with fail
  refine (bare_any [97, 91, 98, 93] (by decide) _).mono ?_
  rintro e wa15 ⟨Ba15, rfl, hp15, ha15⟩
  have hc15 := hd14.trans (ha15.mono hd14.size)
  have hm15 := magic_any (some ⟨Ba15, 0, none⟩) 1 _ _ hp15
  rw [show magicL (chs [⟨[97, 91, 98, 93], false, false⟩]) = true from by kernel_rfl] at hm15
  clear hp15 ha15
  go_wp2_with fail
  refine hm15.mono ?_
  rintro e wb15 ⟨rfl, hb15⟩
  have hd15 := hc15.trans (hb15.mono hc15.size)
  clear hm15 hc15 hb15
  go_wp2_with fail
  refine (quoted_any [42, 63, 91, 97, 93] (by decide) _).mono ?_
  rintro e wa16 ⟨Ba16, rfl, hp16, ha16⟩
  have hc16 := hd15.trans (ha16.mono hd15.size)
  have hm16 := magic_any (some ⟨Ba16, 0, none⟩) 1 _ _ hp16
  rw [show magicL (chs [⟨[42, 63, 91, 97, 93], true, false⟩]) = false from by kernel_rfl] at hm16
  clear hp16 ha16
  go_wp2_with fail
  refine hm16.mono ?_
  rintro e wb16 ⟨rfl, hb16⟩
  have hd16 := hc16.trans (hb16.mono hc16.size)
  clear hm16 hc16 hb16
  go_wp2_with fail
  refine (bare_any [120, 63] (by decide) _).mono ?_
  rintro e wa17 ⟨Ba17, rfl, hp17, ha17⟩
  have hc17 := hd16.trans (ha17.mono hd16.size)
  have hm17 := magic_any (some ⟨Ba17, 0, none⟩) 1 _ _ hp17
  rw [show magicL (chs [⟨[120, 63], false, false⟩]) = true from by kernel_rfl] at hm17
  clear hp17 ha17
  go_wp2_with fail
  refine hm17.mono ?_
  rintro e wb17 ⟨rfl, hb17⟩
  have hd17 := hc17.trans (hb17.mono hc17.size)
  clear hm17 hc17 hb17
  have hm18 := fun W => magic_any none 0 [] W (pat_nil W)
  rw [show magicL (chs []) = false from rfl] at hm18
  have HM18 := hid hm18
  clear hm18
  go_wp2_with fail
  refine (HM18.out _).mono ?_
  rintro e wb18 ⟨rfl, hb18⟩
  have hd18 := hd17.trans (hb18.mono hd17.size)
  clear hb18
  go_wp2_with fail
  refine (three_any [97] [98] [99] (by decide) (by decide) (by decide) _).mono ?_
  rintro e wa19 ⟨Ba19, rfl, hp19, ha19⟩
  have hc19 := hd18.trans (ha19.mono hd18.size)
  have hm19 := plain_any (some ⟨Ba19, 0, none⟩) 3 _ _ hp19
  rw [show plainL [⟨[97], false, false⟩, ⟨[98], true, false⟩, ⟨[99], false, false⟩] = [97, 98, 99] from rfl] at hm19
  clear hp19 ha19
  go_wp2_with fail
  refine hm19.mono ?_
  rintro e wb19 ⟨rfl, hb19⟩
  have hd19 := hc19.trans (hb19.mono hc19.size)
  clear hm19 hc19 hb19
  go_wp2_with fail
  refine (bare_any [91, 128, 45, 255, 93] (by decide) _).mono ?_
  rintro e wa20 ⟨Ba20, rfl, hp20, ha20⟩
  have hc20 := hd19.trans (ha20.mono hd19.size)
  go_wp2_with fail
  refine (rows_lits [[128], [255]] [[97]] hp20 (by decide) (by kernel_rfl)).mono ?_
  rintro e wb20 ⟨rfl, hb20⟩
  have hd20 := hc20.trans (hb20.mono hc20.size)
  clear hp20 ha20 hc20 hb20
  have hr1 := fun W => Try.strings_Repeat ⟨#[42, 97]⟩ 12 W (by decide) (by decide)
  have hr2 := fun W => Try.strings_Repeat ⟨#[97]⟩ 40 W (by decide) (by decide)
  rw [show ((12 : Nat) : Int) = 12 from rfl, show Lib.repeatL (ByteArray.mk #[42, 97]).data.toList 12 = (List.replicate 12 [42, 97]).flatten from by kernel_rfl] at hr1
  rw [show ((40 : Nat) : Int) = 40 from rfl, show Lib.repeatL (ByteArray.mk #[97]).data.toList 40 = manyS from by kernel_rfl] at hr2
  have HR1 := hid hr1
  have HR2 := hid hr2
  clear hr1 hr2
  go_wp2_with fail
  refine (HR1.out _).mono ?_
  rintro e wa21 ⟨rfl, ha21⟩
  have hc21 := hd20.trans (ha21.mono hd20.size)
  obtain ⟨q, hq⟩ : ∃ q : List UInt8, q = (List.replicate 12 [42, 97]).flatten := ⟨_, rfl⟩
  rw [← hq]
  have hql : q.length = 24 := by rw [hq]; rfl
  have hqe : q ++ [42, 98] = manyP := by rw [hq]; rfl
  have hq24 : q.length ≤ 24 := by omega
  have HQ := hid hqe
  clear hq hql hqe ha21
  go_wp2_with fail
  rw [HQ.out]
  refine (bare_any manyP (by decide) _).mono ?_
  rintro e wd21 ⟨Bd21, rfl, hp21, hh21⟩
  have hf21 := hc21.trans (hh21.mono hc21.size)
  clear hh21
  go_wp2_with fail
  refine (HR2.out _).mono ?_
  rintro e wf21 ⟨rfl, hg21⟩
  have hi21 := hf21.trans (hg21.mono hf21.size)
  have hrn21 := rows_no (c := 1) [manyS] (hp21.below hg21) (by decide) many_no
  have hsm : manyS.length ≤ 40 := by decide
  obtain ⟨z, hz⟩ : ∃ z, z = manyS := ⟨_, rfl⟩
  rw [← hz] at hrn21 hsm ⊢
  have HRN := hid hrn21
  clear hz hrn21 hp21 hg21
  go_wp2_with fail
  refine HRN.out.mono ?_
  rintro e wh21 ⟨rfl, hj21⟩
  have hk21 := hi21.trans (hj21.mono hi21.size)
  go_wp2_with fail
  go_ret
  exact ⟨rfl, hk21⟩
end Go.Proofs.Ytklihdlfbhgpeaa
