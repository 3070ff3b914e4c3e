/-
  The plain law of layer 1: the row of a number, and how it is read back. No program in sight.
-/
import Derived.Test.YtefgoaokndbbhaaGen
namespace Go.Proofs.Ytefgoaokndbbhaa

/-- A digit that is not the last, and the last. -/
def hiB (n : Nat) : UInt8 := UInt8.ofNat (n % 128 + 128)
def loB (n : Nat) : UInt8 := UInt8.ofNat (n % 128)
/-- The digits ahead of the last one, each with 128 added; k: how many there may be. -/
def hiF : Nat → Nat → List UInt8
  | 0, _ => []
  | k + 1, n => if n = 0 then [] else hiF k (n / 128) ++ [hiB n]
/-- The row of a number. -/
def numRow (n : Nat) : List UInt8 := hiF 9 (n / 128) ++ [loB n]

theorem hiF_zero (k : Nat) : hiF k 0 = [] := by cases k <;> simp [hiF]
theorem hiF_len : ∀ k n, (hiF k n).length ≤ k
  | 0, _ => by simp [hiF]
  | k + 1, n => by
    have := hiF_len k (n / 128)
    simp only [hiF]
    split
    · simp
    · simp; omega
theorem numRow_len (n : Nat) : (numRow n).length ≤ 10 := by
  have := hiF_len 9 (n / 128)
  simp [numRow]; omega
theorem numRow_pos (n : Nat) : 0 < (numRow n).length := by simp [numRow]

theorem u8_lo (n : Nat) : (loB n).toNat = n % 128 := by
  simp [loB, UInt8.toNat_ofNat']; omega
theorem u8_hi (n : Nat) : (hiB n).toNat = n % 128 + 128 := by
  simp [hiB, UInt8.toNat_ofNat']; omega

/-- The value of digits, from a value on. -/
def valF (acc : Nat) (l : List UInt8) : Nat := l.foldl (fun a b => a * 128 + b.toNat % 128) acc
theorem valF_append (acc : Nat) (l k : List UInt8) : valF acc (l ++ k) = valF (valF acc l) k := by simp [valF]
theorem valF_hi : ∀ k n, n < 128 ^ k → valF 0 (hiF k n) = n
  | 0, n, h => by simp [hiF, valF] at *; omega
  | k + 1, n, h => by
    simp only [hiF]
    split
    · simp_all [valF]
    · rw [valF_append, valF_hi k (n / 128) (by rw [Nat.pow_succ] at h; omega)]
      simp only [valF, List.foldl_cons, List.foldl_nil, u8_hi]
      omega
theorem valF_numRow (n : Nat) (h : n < 18446744073709551616) : valF 0 (numRow n) = n := by
  rw [numRow, valF_append, valF_hi 9 (n / 128) (by simp; omega)]
  simp only [valF, List.foldl_cons, List.foldl_nil, u8_lo]
  omega

/-- How long the number's row is at the beginning of bytes, as 'row' reckons it; i: the place, b0: the first byte. -/
def rowF (b0 : UInt8) : Nat → List UInt8 → Nat
  | _, [] => 0
  | i, c :: r => if i = 0 ∧ c = 128 ∨ i = 9 ∧ 129 < b0 ∨ i = 10 then 0 else if c < 128 then i + 1 else rowF b0 (i + 1) r
def rowLen (l : List UInt8) : Nat := rowF (l.headD 0) 0 l

theorem rowF_le (b0 : UInt8) : ∀ (l : List UInt8) (i : Nat), rowF b0 i l ≤ i + l.length ∧ (rowF b0 i l = 0 ∨ i < rowF b0 i l)
  | [], i => by simp [rowF]
  | c :: r, i => by
    have := rowF_le b0 r (i + 1)
    simp only [rowF, List.length_cons]
    split
    · omega
    · split <;> omega
theorem rowLen_le (l : List UInt8) : rowLen l ≤ l.length := by
  have := (rowF_le (l.headD 0) l 0).1
  simpa [rowLen] using this

/-- What 'row' has found of the bytes ahead: k is the row's length behind place i. -/
theorem rowF_spec (b0 : UInt8) : ∀ (l : List UInt8) (i k : Nat), rowF b0 i l = i + k → 0 < k → i ≤ 10 →
    i + k ≤ 10 ∧ k ≤ l.length ∧ (∀ j, j + 1 < k → ∃ c, l[j]? = some c ∧ 128 ≤ c.toNat) ∧ (∃ c, l[k - 1]? = some c ∧ c.toNat < 128) ∧ (i = 0 → ∃ c, l[0]? = some c ∧ c.toNat ≠ 128) ∧ (i ≤ 9 → i + k = 10 → b0.toNat ≤ 129)
  | [], i, k, h, hk, _ => by simp [rowF] at h; omega
  | c :: r, i, k, h, hk, hi => by
    simp only [rowF] at h
    by_cases h1 : i = 0 ∧ c = 128 ∨ i = 9 ∧ 129 < b0 ∨ i = 10
    · rw [if_pos h1] at h; omega
    rw [if_neg h1] at h
    have hc0 : i = 0 → c.toNat ≠ 128 := fun e h' => h1 (Or.inl ⟨e, UInt8.toNat_inj.1 h'⟩)
    have hb : i = 9 → b0.toNat ≤ 129 := fun e => by
      have : ¬ 129 < b0 := fun q => h1 (Or.inr (Or.inl ⟨e, q⟩))
      rw [UInt8.lt_iff_toNat_lt] at this
      have e' : (129 : UInt8).toNat = 129 := rfl
      omega
    by_cases h2 : c < 128
    · rw [if_pos h2] at h
      have hk1 : k = 1 := by omega
      subst hk1
      rw [UInt8.lt_iff_toNat_lt] at h2
      exact ⟨by omega, by simp, fun j hj => by omega, ⟨c, by simp, h2⟩, fun e => ⟨c, by simp, hc0 e⟩, fun _ e => hb (by omega)⟩
    · rw [if_neg h2] at h
      have hge : 128 ≤ c.toNat := by
        rw [UInt8.lt_iff_toNat_lt] at h2
        have e' : (128 : UInt8).toNat = 128 := rfl
        omega
      have hk2 : 2 ≤ k := by
        have := (rowF_le b0 r (i + 1)).2
        omega
      obtain ⟨s1, s2, s3, s4, s5, s6⟩ := rowF_spec b0 r (i + 1) (k - 1) (by omega) (by omega) (by omega)
      have q1 : i + k ≤ 10 := by clear s3 s4 s5 s6; omega
      have q2 : k ≤ (c :: r).length := by clear s3 s4 s5 s6; simp; omega
      refine ⟨q1, q2, fun j hj => ?_, ?_, fun e => ⟨c, by simp, hc0 e⟩, fun _ e => ?_⟩
      · cases j with
        | zero => exact ⟨c, by simp, hge⟩
        | succ j => simpa using s3 j (by clear s3 s4 s5 s6; omega)
      · obtain ⟨d, hd, hd'⟩ := s4
        refine ⟨d, ?_, hd'⟩
        rw [show k - 1 = (k - 1 - 1) + 1 by clear s3 s5 s6; omega, List.getElem?_cons_succ]
        exact hd
      · clear s3 s4 s5
        rcases Nat.lt_or_ge i 9 with h9 | h9
        · exact s6 (by omega) (by omega)
        · exact hb (by omega)

theorem valF_lt : ∀ (l : List UInt8) (acc : Nat), valF acc l < (acc + 1) * 128 ^ l.length
  | [], acc => by simp [valF]
  | c :: r, acc => by
    have := valF_lt r (acc * 128 + c.toNat % 128)
    show valF (acc * 128 + c.toNat % 128) r < _
    refine Nat.lt_of_lt_of_le this ?_
    rw [List.length_cons, Nat.pow_succ, Nat.mul_comm (128 ^ r.length), ← Nat.mul_assoc]
    exact Nat.mul_le_mul_right _ (by omega)

/-- No number that is read runs over. -/
theorem numVal_lt (l : List UInt8) (j : Nat) (hj : j ≤ rowLen l) : valF 0 (l.take j) < 18446744073709551616 := by
  rcases Nat.eq_zero_or_pos (rowLen l) with h0 | h0
  · have : j = 0 := by omega
    subst this
    simp [valF]
  obtain ⟨s1, s2, s3, s4, s5, s6⟩ := rowF_spec (l.headD 0) l 0 (rowLen l) (by simp [rowLen]) h0 (by omega)
  clear s4 s5
  by_cases h9 : j ≤ 9
  · have := valF_lt (l.take j) 0
    have hle : (128 : Nat) ^ (l.take j).length ≤ 128 ^ 9 := Nat.pow_le_pow_right (by omega) (by simp; omega)
    have e : (128 : Nat) ^ 9 = 9223372036854775808 := by decide
    omega
  · cases l with
    | nil => simp at s2; omega
    | cons c r =>
      have hb := s6 (by omega) (by omega)
      simp only [List.headD_cons] at hb
      obtain ⟨c', hc', hge⟩ := s3 0 (by omega)
      simp at hc'
      subst hc'
      obtain ⟨d, rfl⟩ : ∃ d, j = d + 1 := ⟨j - 1, by omega⟩
      rw [List.take_succ_cons]
      show valF (0 * 128 + c.toNat % 128) (r.take d) < _
      have := valF_lt (r.take d) (0 * 128 + c.toNat % 128)
      have hle : (128 : Nat) ^ (r.take d).length ≤ 128 ^ 9 := Nat.pow_le_pow_right (by omega) (by simp; omega)
      have e : (128 : Nat) ^ 9 = 9223372036854775808 := by decide
      have hd : 0 * 128 + c.toNat % 128 ≤ 1 := by omega
      have : (0 * 128 + c.toNat % 128 + 1) * 128 ^ (r.take d).length ≤ 2 * 9223372036854775808 := Nat.mul_le_mul (by omega) (by omega)
      omega

/-- A number that is read: its value, what is left, whether the reader is lost. -/
def numVal (l : List UInt8) : Nat := valF 0 (l.take (rowLen l))
def numRest (l : List UInt8) : List UInt8 := if rowLen l = 0 then [] else l.drop (rowLen l)
def numLost (l : List UInt8) (lost : Bool) : Bool := if rowLen l = 0 then true else lost
/-- A text that is read. -/
def txtVal (l : List UInt8) : List UInt8 := if numVal l ≤ (numRest l).length then (numRest l).take (numVal l) else []
def txtRest (l : List UInt8) : List UInt8 := if numVal l ≤ (numRest l).length then (numRest l).drop (numVal l) else []
def txtLost (l : List UInt8) (lost : Bool) : Bool := if numVal l ≤ (numRest l).length then numLost l lost else true
end Go.Proofs.Ytefgoaokndbbhaa
