/-
  The plain law of layer 1, its third part: lengths and order of rows; texts behind rows. No program in sight.
-/
import Derived.Test.YtefgoaokndbbhaaPlain2
namespace Go.Proofs.Ytefgoaokndbbhaa

/-- Fuel beyond what is wanted changes nothing. -/
theorem hiF_more : ∀ k n, n < 128 ^ k → hiF (k + 1) n = hiF k n
  | 0, n, h => by
    simp at h
    subst h
    simp [hiF]
  | k + 1, n, h => by
    have ih := hiF_more k (n / 128) (by rw [Nat.pow_succ] at h; omega)
    show (if n = 0 then [] else hiF (k + 1) (n / 128) ++ [hiB n]) = (if n = 0 then [] else hiF k (n / 128) ++ [hiB n])
    rw [ih]

theorem numRow_len_mul (a : Nat) (h0 : 0 < a) (h : a < 144115188075855872) : (numRow (a * 128)).length = (numRow a).length + 1 := by
  have e : hiF 9 a = hiF 8 (a / 128) ++ [hiB a] := by rw [hiF, if_neg (by omega)]
  rw [numRow, numRow, Nat.mul_div_cancel _ (by decide), e, hiF_more 8 (a / 128) (by simp; omega)]
  simp

/-- Of the high bits: each byte but the last has it. -/
theorem numRow_get (n j : Nat) (c : UInt8) (h : (numRow n)[j]? = some c) : (j + 1 < (numRow n).length → 128 ≤ c.toNat) ∧ (j + 1 = (numRow n).length → c.toNat < 128) := by
  have hlen : (numRow n).length = (hiF 9 (n / 128)).length + 1 := by simp [numRow]
  constructor
  · intro hj
    rw [numRow, List.getElem?_append_left (by omega)] at h
    exact hiF_ge 9 _ c (List.mem_of_getElem? h)
  · intro hj
    rw [numRow, List.getElem?_append_right (by omega), show j - (hiF 9 (n / 128)).length = 0 by omega] at h
    simp at h
    rw [← h, u8_lo]
    omega

theorem less_valF : ∀ (x y : List UInt8) (acc acc' : Nat), x.length = y.length → (∀ (j : Nat) (c d : UInt8), x[j]? = some c → y[j]? = some d → (128 ≤ c.toNat ↔ 128 ≤ d.toNat)) → acc = acc' →
    (Op.bytesLess x y = true ↔ valF acc x < valF acc' y)
  | [], [], acc, acc', _, _, h => by subst h; simp [Op.bytesLess, valF]
  | [], d :: y, _, _, h, _, _ => by simp at h
  | c :: x, [], _, _, h, _, _ => by simp at h
  | c :: x, d :: y, acc, acc', hl, hc, he => by
    subst he
    have hcd := hc 0 c d rfl rfl
    have hl' : x.length = y.length := by simpa using hl
    have hc' : ∀ (j : Nat) (c d : UInt8), x[j]? = some c → y[j]? = some d → (128 ≤ c.toNat ↔ 128 ≤ d.toNat) := fun j c d h1 h2 => hc (j + 1) c d (by simpa using h1) (by simpa using h2)
    have hcl := c.toNat_lt
    have hdl := d.toNat_lt
    show (c < d || (c == d && Op.bytesLess x y)) = true ↔ valF (acc * 128 + c.toNat % 128) x < valF (acc * 128 + d.toNat % 128) y
    have u1 := valF_lt x (acc * 128 + c.toNat % 128)
    have u2 := valF_lt y (acc * 128 + d.toNat % 128)
    have l1 := valF_ge x (acc * 128 + c.toNat % 128)
    have l2 := valF_ge y (acc * 128 + d.toNat % 128)
    rw [hl'] at u1 l1
    rcases Nat.lt_trichotomy c.toNat d.toNat with h | h | h
    · have hlt : c < d := UInt8.lt_iff_toNat_lt.2 h
      have : (acc * 128 + c.toNat % 128 + 1) * 128 ^ y.length ≤ (acc * 128 + d.toNat % 128) * 128 ^ y.length := Nat.mul_le_mul_right _ (by omega)
      simp only [hlt, decide_true, Bool.true_or, true_iff]
      omega
    · have hcd' : c = d := UInt8.toNat_inj.1 h
      subst hcd'
      have hn : ¬ c < c := fun h => by rw [UInt8.lt_iff_toNat_lt] at h; omega
      simp only [hn, decide_false, Bool.false_or, beq_self_eq_true, Bool.true_and]
      exact less_valF x y _ _ hl' hc' rfl
    · have hn : ¬ c < d := fun q => by rw [UInt8.lt_iff_toNat_lt] at q; omega
      have hne : (c == d) = false := by
        rw [beq_eq_false_iff_ne]
        rintro rfl
        omega
      have : (acc * 128 + d.toNat % 128 + 1) * 128 ^ y.length ≤ (acc * 128 + c.toNat % 128) * 128 ^ y.length := Nat.mul_le_mul_right _ (by omega)
      simp only [hn, decide_false, hne, Bool.false_and, Bool.or_false, Bool.false_eq_true, false_iff]
      omega

/-- Rows of one length rise. -/
theorem numRow_less (a b : Nat) (ha : a < 18446744073709551616) (hb : b < 18446744073709551616) (hl : (numRow a).length = (numRow b).length) : Op.bytesLess (numRow a) (numRow b) = decide (a < b) := by
  have h := less_valF (numRow a) (numRow b) 0 0 hl (fun j c d h1 h2 => by
    have g1 := numRow_get a j c h1
    have g2 := numRow_get b j d h2
    have hj : j < (numRow a).length := (List.getElem?_eq_some_iff.1 h1).1
    rcases Nat.lt_or_ge (j + 1) (numRow a).length with q | q
    · have := g1.1 q
      have := g2.1 (by omega)
      omega
    · have := g1.2 (by omega)
      have := g2.2 (by omega)
      omega) rfl
  rw [valF_numRow a ha, valF_numRow b hb] at h
  rw [Bool.eq_iff_iff, h]
  simp

/-- A longer row is a greater number's. -/
theorem numRow_longer (a b : Nat) (ha : a < 18446744073709551616) (hb : b < 18446744073709551616) (hl : (numRow a).length < (numRow b).length) : a < b := by
  have u := valF_lt (numRow a) 0
  rw [valF_numRow a ha] at u
  have hp := numRow_pos a
  have hd : b / 128 ≠ 0 := by
    intro h0
    have : (numRow b).length = 1 := by simp [numRow, h0, hiF_zero]
    omega
  obtain ⟨c, r, e, hc⟩ := hiF_first 9 (b / 128) (by simp; omega) hd
  have hge := hiF_ge 9 (b / 128) c (by rw [e]; simp)
  have hcl := c.toNat_lt
  have er : numRow b = c :: (r ++ [loB b]) := by rw [numRow, e]; rfl
  have l : (0 * 128 + c.toNat % 128) * 128 ^ (r ++ [loB b]).length ≤ valF (0 * 128 + c.toNat % 128) (r ++ [loB b]) := valF_ge _ _
  have ev : valF 0 (numRow b) = valF (0 * 128 + c.toNat % 128) (r ++ [loB b]) := by rw [er]; rfl
  rw [valF_numRow b hb] at ev
  have hlb : (r ++ [loB b]).length + 1 = (numRow b).length := by rw [er]; rfl
  have h1 : 1 * 128 ^ (r ++ [loB b]).length ≤ (0 * 128 + c.toNat % 128) * 128 ^ (r ++ [loB b]).length := Nat.mul_le_mul_right _ (by omega)
  have h2 : (128 : Nat) ^ (numRow a).length ≤ 128 ^ (r ++ [loB b]).length := Nat.pow_le_pow_right (by decide) (by omega)
  omega

/-- A number's row, and whatever stands behind it, read. -/
theorem num_of_row (n : Nat) (h : n < 18446744073709551616) (r : List UInt8) : numVal (numRow n ++ r) = n ∧ numRest (numRow n ++ r) = r ∧ ∀ lost, numLost (numRow n ++ r) lost = lost := by
  have hl := rowLen_numRow n h r
  have hp := numRow_pos n
  refine ⟨?_, ?_, fun lost => ?_⟩
  · rw [numVal, hl, List.take_left, valF_numRow n h]
  · rw [numRest, hl, if_neg (by omega), List.drop_left]
  · rw [numLost, hl, if_neg (by omega)]
/-- A text, and whatever stands behind it, read. -/
theorem txt_of_row (t r : List UInt8) (h : t.length < 18446744073709551616) : txtVal (numRow t.length ++ (t ++ r)) = t ∧ txtRest (numRow t.length ++ (t ++ r)) = r ∧ ∀ lost, txtLost (numRow t.length ++ (t ++ r)) lost = lost := by
  obtain ⟨e1, e2, e3⟩ := num_of_row t.length h (t ++ r)
  have hle : t.length ≤ (t ++ r).length := by simp
  refine ⟨?_, ?_, fun lost => ?_⟩
  · rw [txtVal, e1, e2, if_pos hle, List.take_left]
  · rw [txtRest, e1, e2, if_pos hle, List.drop_left]
  · rw [txtLost, e1, e2, if_pos hle, e3]
theorem txt_nil (lost : Bool) : txtVal [] = [] ∧ txtRest [] = [] ∧ txtLost [] lost = true := by
  refine ⟨rfl, rfl, rfl⟩
/-- One byte too few. -/
theorem txt_short (k : Nat) (hk : k < 18446744073709551616) (t : List UInt8) (h : t.length < k) (lost : Bool) : txtVal (numRow k ++ t) = [] ∧ txtLost (numRow k ++ t) lost = true := by
  obtain ⟨e1, e2, e3⟩ := num_of_row k hk t
  refine ⟨?_, ?_⟩
  · rw [txtVal, e1, e2, if_neg (by omega)]
  · rw [txtLost, e1, e2, if_neg (by omega)]
end Go.Proofs.Ytefgoaokndbbhaa
