/-
  The walks of works, NameHashes.
-/
import Derived.Test.YthacopmahjcmaaaN6
namespace Go.Proofs.Ythacopmahjcmaaa
open Go.RowKit Go.Maps
set_option linter.unusedVariables false

def NG : List UInt8 := [48, 48, 48, 48, 48, 48, 48, 48, 48, 48, 48, 48, 48, 48, 48, 48, 48, 48, 48, 48, 48, 48, 48, 48, 48, 48, 48, 48, 48, 48, 48, 48]
theorem noughts_any (w : World) : Calls Try.prog 27 #[] w fun e w' => e = .returned (.string ⟨NG.toArray⟩) ∧ w = w' := by
  go_enter Try.func27, Try.ntmps27
  go_wp2
  go_ret
  exact ⟨rfl, rfl⟩

theorem path_ng : pathL NG [97, 46, 98] = (NG ++ [45, 97, 46, 98], 0) := by decide
theorem split_ng : splitL (NG ++ [45, 97, 45, 98]) = (NG, [97, 45, 98], 0) := by decide
theorem NG_len : NG.length = 32 := rfl

set_option maxRecDepth 100000 in
set_option maxHeartbeats 1000000 in
theorem works_any (w : World) : Calls Try.prog 19 #[] w fun e w' => e = .returned (.bool true) ∧ Below w.heap.size w w' := by
  have hp := path_ng
  have hs := split_ng
  have hng := NG_len
  have hN := fun W => noughts_any W
  have hP := fun W => path_any NG [97, 46, 98] (by rw [NG_len]; decide) (by decide) W
  have hS := fun W => split_any (NG ++ [45, 97, 45, 98]) (by rw [List.length_append, NG_len]; decide) W
  rw [hp] at hP
  rw [hs] at hS
  generalize NG = ng at *
  clear hp hs
  have HN := hid hN
  have HP := hid hP
  have HS := hid hS
  clear hN hP hS
  go_enter Try.func19, Try.ntmps19
  go_wp2_with fail
  refine (HN.out _).mono ?_
  rintro e w1 ⟨rfl, rfl⟩
  go_wp2_with fail
  refine (HP.out _).mono ?_
  rintro e w2 ⟨rfl, hB2⟩
  go_wp2_with fail
  refine (HN.out _).mono ?_
  rintro e w3 ⟨rfl, rfl⟩
  go_wp2_with fail
  refine (HS.out _).mono ?_
  rintro e w4 ⟨rfl, hB4⟩
  have hb4 := hB2.trans (hB4.mono hB2.size)
  clear hB2 hB4
  go_wp2_with fail
  refine (HN.out _).mono ?_
  rintro e w5 ⟨rfl, rfl⟩
  go_wp2_with fail
  refine (HN.out _).mono ?_
  rintro e w6 ⟨rfl, rfl⟩
  go_wp2_with fail
  refine (hash_any [] (by decide) _).mono ?_
  rintro e w7 ⟨rfl, hB7⟩
  have hb7 := hb4.trans (hB7.mono hb4.size)
  have hl := hashL_len []
  generalize hashL [] = hh at *
  go_wp2_with fail
  go_ret
  exact ⟨by rfl, hb7⟩

set_option maxRecDepth 100000 in
set_option maxHeartbeats 1000000 in
theorem nameHashes_walk (a0 : ByteArray) (w0 : a0.size ≤ maxLen) (w : World) : Calls Try.prog 8 #[.string a0] w fun e w' => e = .returned (.bool true) ∧ Below w.heap.size w w' := by
  obtain ⟨⟨l0⟩⟩ := a0
  have hlen : l0.length ≤ maxLen := w0
  unfold maxLen at hlen
  clear w0
  obtain ⟨n, hn, hmin, hn3⟩ : ∃ n : Nat, (n : Int) ≤ l0.length ∧ min (l0.length : Int) 300 = (n : Int) ∧ n ≤ 300 := ⟨min l0.length 300, by omega, by omega, by omega⟩
  go_enter Try.func8, Try.ntmps8
  go_wp2_with fail
  have hts : (l0.take n).length ≤ 300 := by rw [List.length_take]; omega
  generalize l0.take n = s at hts ⊢
  clear hmin hn hlen
  refine (hash_any s (by omega) _).mono ?_
  rintro e w1 ⟨rfl, hB1⟩
  go_wp2_with fail
  refine (refHash_any s (by omega) _).mono ?_
  rintro e w2 ⟨rfl, hB2⟩
  have hb2 := hB1.trans (hB2.mono hB1.size)
  clear hB1 hB2
  generalize hashL s = hh
  go_wp2_with fail
  refine (works_any _).mono ?_
  rintro e w3 ⟨rfl, hB3⟩
  go_wp2_with fail
  go_ret
  exact ⟨by rfl, hb2.trans (hB3.mono hb2.size)⟩
end Go.Proofs.Ythacopmahjcmaaa
