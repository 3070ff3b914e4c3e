/-
  The walk of ShaKnown.
-/
import Derived.Test.YthacopmahjcmaaaS13
import Derived.Test.YthacopmahjcmaaaFast2
namespace Go.Proofs.Ythacopmahjcmaaa
open Go.RowKit
set_option linter.unusedVariables false

/-- A row of bytes that is filled up to i. -/
def fillA (N i : Nat) : List UInt8 := List.replicate i 97 ++ List.replicate (N - i) 0
theorem fillA_zero (N : Nat) : fillA N 0 = List.replicate N 0 := by simp [fillA]
theorem fillA_end (N : Nat) : fillA N N = List.replicate N 97 := by simp [fillA]
theorem fillA_len (N i : Nat) (h : i ≤ N) : (fillA N i).length = N := by simp [fillA]; omega
theorem fillA_at (N i : Nat) (h : i < N) : (bv (fillA N i))[i]? = some (.int .u8 0) := by
  have hl : i < (fillA N i).length := by rw [fillA_len _ _ (by omega)]; exact h
  rw [bv_get _ i hl]
  have : (fillA N i)[i] = 0 := by simp [fillA, List.getElem_append_right]
  rw [this]
  rfl
theorem fillA_set (N i : Nat) (h : i < N) : (bv (fillA N i)).set i (.int .u8 97) = bv (fillA N (i + 1)) := by
  unfold fillA
  obtain ⟨d, hd⟩ : ∃ d, N - i = d + 1 := ⟨N - i - 1, by omega⟩
  rw [hd, show N - (i + 1) = d by omega, List.replicate_succ (n := d), bv_append, bv_cons, List.set_append_right _ _ (by simp [bv_length]), bv_length, List.length_replicate, Nat.sub_self, List.set_cons_zero, List.replicate_succ', bv_append, bv_append, List.append_assoc]
  rfl
theorem bv_replicate (n : Nat) : List.replicate n (Value.int .u8 0) = bv (List.replicate n 0) := by simp [bv]

def hexTwo : List UInt8 := [50, 52, 56, 100, 54, 97, 54, 49, 100, 50, 48, 54, 51, 56, 98, 56, 101, 53, 99, 48, 50, 54, 57, 51, 48, 99, 51, 101, 54, 48, 51, 57, 97, 51, 51, 99, 101, 52, 53, 57, 54, 52, 102, 102, 50, 49, 54, 55, 102, 54, 101, 99, 101, 100, 100, 52, 49, 57, 100, 98, 48, 54, 99, 49]
def hexMil : List UInt8 := [99, 100, 99, 55, 54, 101, 53, 99, 57, 57, 49, 52, 102, 98, 57, 50, 56, 49, 97, 49, 99, 55, 101, 50, 56, 52, 100, 55, 51, 101, 54, 55, 102, 49, 56, 48, 57, 97, 52, 56, 97, 52, 57, 55, 50, 48, 48, 101, 48, 52, 54, 100, 51, 57, 99, 99, 99, 55, 49, 49, 50, 99, 100, 48]
theorem hex_two : hexL (sumL twoL) = hexTwo := by rw [sum_two]; decide +kernel
theorem hex_mil (m : Nat) (hm : m = 1000000) : hexL (sumL (List.replicate m 97)) = hexMil := by rw [sum_mil m hm]; decide +kernel

set_option maxRecDepth 100000 in
set_option maxHeartbeats 1000000 in
theorem shaKnown_walk (w : World) : Calls Try.prog 7 #[] w fun e w' => e = .returned (.bool true) ∧ Below w.heap.size w w' := by
  obtain ⟨i0, hi, hz0, hz1, hz2⟩ := info_parts info5
  obtain ⟨N, hN⟩ : ∃ N : Nat, N = 1000000 := ⟨_, rfl⟩
  have hNi : (1000000 : Int) = (N : Int) := by omega
  have hNb : N ≤ 1000000 := by omega
  have HNI := hid hNi
  have s0 := fun W => sum_any twoL (by simp [twoL]) W
  have s1 := fun W => sum_any (List.replicate N 97) (by rw [List.length_replicate]; exact hNb) W
  have x0 := fun W => hex_any (sumL twoL) (sumL_len _) W
  have x1 := fun W => hex_any (sumL (List.replicate N 97)) (sumL_len _) W
  rw [hex_two, hexTwo] at x0
  rw [hex_mil N hN, hexMil] at x1
  generalize sumL twoL = q0 at s0 x0
  generalize sumL (List.replicate N 97) = q1 at s1 x1
  rw [twoL] at s0
  have S0 := hid s0
  have S1 := hid s1
  have X0 := hid x0
  have X1 := hid x1
  clear s0 s1 x0 x1 hN hNi
  go_enter Try.func7, Try.ntmps7
  go_wp2_with (refine wpList_make_bytes rfl (.const (.int .i64 1000000)) 27 rfl 5 i0 Try.underlying27 hi hz0 hz1 hz2 1000000 N rfl HNI.out (by omega) ?_; intro w1 hA1 hB1 hS1)
  rw [bv_replicate, ← fillA_zero] at hA1
  go_loopg [2] N (fun m v2 wx => ∃ i : Nat, m + i = N ∧ v2 = .int .i64 i ∧ At wx w.heap.size 5 (bv (fillA N i)).toArray ∧ Below w.heap.size w wx)
  case atStart => exact ⟨0, rfl, rfl, hA1, hB1⟩
  case round =>
    clear hA1 hB1
    obtain ⟨i, hm, rfl, hA, hB⟩ := hrel
    have HM := hid hm
    by_cases hlt : i < N
    · have hcl : wr.cell? ⟨w.heap.size, i, none⟩ = some (.int .u8 0) := by rw [hA.cell i, List.getElem?_toArray]; exact fillA_at N i hlt
      have hf := hA.frozen i
      have hst := hA.set i (.int .u8 97)
      rw [List.setIfInBounds_toArray, fillA_set N i hlt] at hst
      have HS := hid hst
      have i0' : (0 : Int) ≤ (i : Int) := by omega
      have i1 : (i : Int) < (N : Int) := by omega
      clear hst hm
      go_wp2_with fail
      go_roundg (gk - 1)
      case measure => go_light; have := HM.out; omega
      case rel =>
        go_light
        have := HM.out
        exact ⟨i + 1, by omega, int_cast (by omega), HS.out, hB.setCell (p := ⟨w.heap.size, i, none⟩) (by simp) _⟩
    · obtain rfl : i = N := by omega
      rw [fillA_end] at hA
      have i1 : ¬ (i : Int) < (i : Int) := by omega
      clear hm HM hlt
      go_wp2_with fail
      refine (works_any _).mono ?_
      rintro e w2 ⟨rfl, hB2⟩
      have hb2 : Below w.heap.size w w2 := hB.trans (hB2.mono hB.size)
      go_wp2_with fail
      refine (S0.out _).mono ?_
      rintro e w3 ⟨rfl, hB3⟩
      have hb3 : Below w.heap.size w w3 := hb2.trans (hB3.mono hb2.size)
      go_wp2_with fail
      refine (X0.out _).mono ?_
      rintro e w4 ⟨rfl, hB4⟩
      have hb4 : Below w.heap.size w w4 := hb3.trans (hB4.mono hb3.size)
      have hA4 : At w4 w.heap.size 5 (bv (List.replicate i 97)).toArray := ((hA.below hB2 hA.lt).below hB3 (Nat.lt_of_lt_of_le hA.lt hB2.size)).below hB4 (Nat.lt_of_lt_of_le hA.lt (Nat.le_trans hB2.size hB3.size))
      have hst := run_string_of (P := Try.prog) w4 27 9 5 Try.underlying27 Try.underlying5 Try.underlying9 (w4.heap.size + 1) (some ⟨w.heap.size, 0, none⟩) i i (List.replicate i 97) (Rd.of_at hA4 (by have := hA4.lt; omega) rfl (by rw [bv_length, List.length_replicate]))
      clear hA hA4
      go_wp2_with fail
      refine (S1.out _).mono ?_
      rintro e w5 ⟨rfl, hB5⟩
      have hb5 : Below w.heap.size w w5 := hb4.trans (hB5.mono hb4.size)
      go_wp2_with fail
      refine (X1.out _).mono ?_
      rintro e w6 ⟨rfl, hB6⟩
      have hb6 : Below w.heap.size w w6 := hb5.trans (hB6.mono hb5.size)
      go_wp2_with fail
      go_ret
      exact ⟨rfl, hb6⟩
end Go.Proofs.Ythacopmahjcmaaa
