/-
  What a sum is: bytes, padded; blocks, one behind the other; words as bytes. No program in sight.
-/
import Derived.Test.YthacopmahjcmaaaPlainB
namespace Go.Proofs.Ythacopmahjcmaaa
open Go.RowKit
set_option linter.unusedVariables false

/-- How many noughts are put behind the first byte of the padding. -/
def padZ (n : Nat) : Nat := (119 - n % 64) % 64
theorem padZ_iff (n z : Nat) (h : z ≤ padZ n) : (n + 1 + z) % 64 = 56 ↔ z = padZ n := by
  unfold padZ at *
  omega
/-- A byte of the length in bits. -/
def lenB (n k : Nat) : UInt8 := UInt8.ofNat (n * 8 / 2 ^ (8 * (7 - k)))
def lenBs (n k : Nat) : List UInt8 := (List.range k).map (lenB n)
theorem lenBs_len (n k : Nat) : (lenBs n k).length = k := by simp [lenBs]
theorem lenBs_succ (n k : Nat) : lenBs n (k + 1) = lenBs n k ++ [lenB n k] := by simp [lenBs, List.range_succ]
/-- Padded so far: z noughts; k bytes of the length. -/
def padTo (l : List UInt8) (z : Nat) : List UInt8 := l ++ 128 :: List.replicate z 0
theorem padTo_len (l : List UInt8) (z : Nat) : (padTo l z).length = l.length + 1 + z := by simp [padTo]; omega
theorem padTo_succ (l : List UInt8) (z : Nat) : padTo l z ++ [0] = padTo l (z + 1) := by simp [padTo, List.replicate_succ']
def padK (l : List UInt8) (k : Nat) : List UInt8 := padTo l (padZ l.length) ++ lenBs l.length k
theorem padK_len (l : List UInt8) (k : Nat) : (padK l k).length = l.length + 1 + padZ l.length + k := by simp [padK, padTo_len, lenBs_len]
theorem padK_succ (l : List UInt8) (k : Nat) : padK l k ++ [lenB l.length k] = padK l (k + 1) := by simp [padK, lenBs_succ]
def padL (l : List UInt8) : List UInt8 := padK l 8
theorem padL_len (l : List UInt8) : (padL l).length = l.length + 9 + padZ l.length := by rw [padL, padK_len]; omega
theorem padL_mod (l : List UInt8) : (padL l).length % 64 = 0 := by
  rw [padL_len]
  unfold padZ
  omega
theorem padL_le (l : List UInt8) : (padL l).length ≤ l.length + 72 := by
  rw [padL_len]
  unfold padZ
  omega
/-- How many blocks. -/
def blkN (l : List UInt8) : Nat := (padL l).length / 64
theorem blkN_mul (l : List UInt8) : 64 * blkN l = (padL l).length := by
  have := padL_mod l
  unfold blkN
  omega
/-- Block number k. -/
def blkAt (p : List UInt8) (k : Nat) : List UInt8 := (p.drop (64 * k)).take 64
theorem blkAt_len (p : List UInt8) (k : Nat) (h : 64 * k + 64 ≤ p.length) : (blkAt p k).length = 64 := by simp [blkAt]; omega
/-- The words behind k blocks. -/
def stepsF (h : List UInt32) (p : List UInt8) : Nat → List UInt32
  | 0 => h
  | k + 1 => blockF (stepsF h p k) (blkAt p k)
theorem stepsF_len (h : List UInt32) (p : List UInt8) : ∀ k, (stepsF h p k).length = h.length
  | 0 => rfl
  | k + 1 => by rw [stepsF, blockF_len, stepsF_len h p k]
/-- Words as bytes. -/
def wordBs (x : UInt32) : List UInt8 := [UInt8.ofNat (x.toNat / 2 ^ 24), UInt8.ofNat (x.toNat / 2 ^ 16), UInt8.ofNat (x.toNat / 2 ^ 8), UInt8.ofNat x.toNat]
def outF (ws : List UInt32) : List UInt8 := ws.flatMap wordBs
theorem outF_len (ws : List UInt32) : (outF ws).length = 4 * ws.length := by
  induction ws with
  | nil => rfl
  | cons a l ih => simp [outF, wordBs] at ih ⊢; omega
theorem outF_snoc (ws : List UInt32) (i : Nat) (h : i < ws.length) : outF (ws.take (i + 1)) = outF (ws.take i) ++ wordBs ws[i] := by
  rw [List.take_succ_eq_append_getElem h, outF, List.flatMap_append]
  simp [outF]
/-- The sum of bytes. -/
def sumL (l : List UInt8) : List UInt8 := outF (stepsF Hc (padL l) (blkN l))
theorem sumL_len (l : List UInt8) : (sumL l).length = 32 := by rw [sumL, outF_len, stepsF_len, Hc_len]
end Go.Proofs.Ythacopmahjcmaaa
