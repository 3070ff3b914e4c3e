/-
  The plain law of layer 1, its second half: a row is read back, and what is read is a row. No program in sight.
-/
import Derived.Test.YtefgoaokndbbhaaPlain
namespace Go.Proofs.Ytefgoaokndbbhaa

theorem rowF_of (b0 : UInt8) : ∀ (l : List UInt8) (i k : Nat), 0 < k → i + k ≤ 10 → (∀ j, j + 1 < k → ∃ c, l[j]? = some c ∧ 128 ≤ c.toNat) → (∃ c, l[k - 1]? = some c ∧ c.toNat < 128) →
    (i = 0 → ∃ c, l[0]? = some c ∧ c.toNat ≠ 128) → (i + k = 10 → b0.toNat ≤ 129) → rowF b0 i l = i + k
  | [], i, k, _, _, _, h4, _, _ => by obtain ⟨c, hc, _⟩ := h4; simp at hc
  | c :: r, i, k, hk, hik, h3, h4, h5, h6 => by
    have hn : ¬ (i = 0 ∧ c = 128 ∨ i = 9 ∧ 129 < b0 ∨ i = 10) := by
      rintro (⟨e, hc⟩ | ⟨e, hb⟩ | e)
      · obtain ⟨c', hc', hne⟩ := h5 e
        simp at hc'
        subst hc'
        exact hne (by rw [hc]; rfl)
      · have := h6 (by clear h3 h4 h5; omega)
        rw [UInt8.lt_iff_toNat_lt] at hb
        have e' : (129 : UInt8).toNat = 129 := rfl
        clear h3 h4 h5
        omega
      · clear h3 h4 h5; omega
    rw [rowF, if_neg hn]
    by_cases h1 : k = 1
    · subst h1
      obtain ⟨d, hd, hlt⟩ := h4
      simp at hd
      subst hd
      rw [if_pos (by rw [UInt8.lt_iff_toNat_lt]; exact hlt)]
    · have hge : 128 ≤ c.toNat := by
        obtain ⟨d, hd, hge⟩ := h3 0 (by clear h3 h4 h5; omega)
        simp at hd
        subst hd
        exact hge
      rw [if_neg (by rw [UInt8.lt_iff_toNat_lt]; have e' : (128 : UInt8).toNat = 128 := rfl; clear h3 h4 h5; omega)]
      rw [rowF_of b0 r (i + 1) (k - 1) (by clear h3 h4 h5; omega) (by clear h3 h4 h5; omega) ?_ ?_ (fun e => absurd e (by omega)) (fun e => h6 (by clear h3 h4 h5; omega))]
      · clear h3 h4 h5; omega
      · intro j hj
        obtain ⟨d, hd, hge⟩ := h3 (j + 1) (by clear h3 h4 h5; omega)
        exact ⟨d, by simpa using hd, hge⟩
      · obtain ⟨d, hd, hlt⟩ := h4
        refine ⟨d, ?_, hlt⟩
        rw [show k - 1 = (k - 1 - 1) + 1 by clear h3 h5; omega, List.getElem?_cons_succ] at hd
        exact hd

theorem hiF_ge : ∀ k n c, c ∈ hiF k n → 128 ≤ c.toNat
  | 0, n, c, h => by simp [hiF] at h
  | k + 1, n, c, h => by
    simp only [hiF] at h
    split at h
    · simp at h
    · rcases List.mem_append.1 h with h | h
      · exact hiF_ge k _ c h
      · simp at h
        subst h
        rw [u8_hi]; omega
theorem hiF_first : ∀ k n, n < 128 ^ k → n ≠ 0 → ∃ c r, hiF k n = c :: r ∧ c.toNat ≠ 128
  | 0, n, h, h0 => by simp at h; omega
  | k + 1, n, h, h0 => by
    rw [Nat.pow_succ] at h
    simp only [hiF, if_neg h0]
    by_cases h1 : n / 128 = 0
    · rw [h1, hiF_zero]
      exact ⟨hiB n, [], rfl, by rw [u8_hi]; omega⟩
    · obtain ⟨c, r, e, hc⟩ := hiF_first k (n / 128) (by omega) h1
      exact ⟨c, r ++ [hiB n], by rw [e]; rfl, hc⟩
theorem valF_ge : ∀ (l : List UInt8) (acc : Nat), acc * 128 ^ l.length ≤ valF acc l
  | [], acc => by simp [valF]
  | c :: r, acc => by
    have := valF_ge r (acc * 128 + c.toNat % 128)
    show _ ≤ valF (acc * 128 + c.toNat % 128) r
    refine Nat.le_trans ?_ this
    rw [List.length_cons, Nat.pow_succ, Nat.mul_comm (128 ^ r.length), ← Nat.mul_assoc]
    exact Nat.mul_le_mul_right _ (by omega)

/-- A row, whatever stands behind it, is found. -/
theorem rowLen_numRow (n : Nat) (h : n < 18446744073709551616) (r : List UInt8) : rowLen (numRow n ++ r) = (numRow n).length := by
  have hp : n / 128 < 128 ^ 9 := by simp; omega
  have hlen : (numRow n).length = (hiF 9 (n / 128)).length + 1 := by simp [numRow]
  have hl9 := hiF_len 9 (n / 128)
  have hget : ∀ j, j < (hiF 9 (n / 128)).length → (numRow n ++ r)[j]? = (hiF 9 (n / 128))[j]? := by
    intro j hj
    rw [numRow, List.append_assoc, List.getElem?_append_left hj]
  have hlast : (numRow n ++ r)[(hiF 9 (n / 128)).length]? = some (loB n) := by
    rw [numRow, List.append_assoc, List.getElem?_append_right (Nat.le_refl _)]
    simp
  have := rowF_of ((numRow n ++ r).headD 0) (numRow n ++ r) 0 (numRow n).length (numRow_pos n) (by omega) ?_ ?_ ?_ ?_
  · simpa [rowLen] using this
  · intro j hj
    have hj' : j < (hiF 9 (n / 128)).length := by omega
    rw [hget j hj', List.getElem?_eq_getElem hj']
    exact ⟨_, rfl, hiF_ge 9 _ _ (List.getElem_mem hj')⟩
  · refine ⟨loB n, ?_, by rw [u8_lo]; omega⟩
    rw [hlen, Nat.add_sub_cancel]
    exact hlast
  · intro _
    by_cases h0 : n / 128 = 0
    · refine ⟨loB n, ?_, by rw [u8_lo]; omega⟩
      rw [h0, hiF_zero] at hlast
      exact hlast
    · obtain ⟨c, q, e, hc⟩ := hiF_first 9 _ hp h0
      exact ⟨c, by rw [hget 0 (by rw [e]; simp), e]; rfl, hc⟩
  · intro h10
    have h0 : n / 128 ≠ 0 := by
      intro h0
      rw [h0, hiF_zero] at hlen
      simp at hlen
      omega
    obtain ⟨c, q, e, hc⟩ := hiF_first 9 _ hp h0
    have hv := valF_hi 9 _ hp
    have hge := hiF_ge 9 (n / 128) c (by rw [e]; simp)
    rw [e] at hv
    have hq : q.length = 8 := by rw [e] at hlen; simp at hlen; omega
    have h1 : (0 * 128 + c.toNat % 128) * 128 ^ q.length ≤ valF (0 * 128 + c.toNat % 128) q := valF_ge q _
    have h2 : valF (0 * 128 + c.toNat % 128) q = n / 128 := hv
    have hlt := c.toNat_lt
    rw [hq] at h1
    have e8 : (128 : Nat) ^ 8 = 72057594037927936 := by decide
    rw [e8] at h1
    have : (numRow n ++ r).headD 0 = c := by rw [numRow, e]; rfl
    rw [this]
    omega

theorem snocInd {P : List UInt8 → Prop} (h0 : P []) (h1 : ∀ p c, P p → P (p ++ [c])) (p : List UInt8) : P p := by
  have h : ∀ q : List UInt8, P q.reverse := by
    intro q
    induction q with
    | nil => exact h0
    | cons c q ih => rw [List.reverse_cons]; exact h1 _ _ ih
  have := h p.reverse
  rwa [List.reverse_reverse] at this
theorem hiF_valF : ∀ (p : List UInt8) (k : Nat), p.length ≤ k → (∀ c ∈ p, 128 ≤ c.toNat) → (∀ c q, p = c :: q → c.toNat ≠ 128) → hiF k (valF 0 p) = p ∧ (p ≠ [] → valF 0 p ≠ 0) := by
  intro p
  refine snocInd (P := fun p => ∀ (k : Nat), p.length ≤ k → (∀ c ∈ p, 128 ≤ c.toNat) → (∀ c q, p = c :: q → c.toNat ≠ 128) → hiF k (valF 0 p) = p ∧ (p ≠ [] → valF 0 p ≠ 0)) ?_ ?_ p
  · intro k _ _ _; simp [valF, hiF_zero]
  · intro p c ih k hk hge hf
    obtain ⟨k, rfl⟩ : ∃ j, k = j + 1 := ⟨k - 1, by simp at hk; omega⟩
    have hc := hge c (by simp)
    have hlt := c.toNat_lt
    obtain ⟨h1, h2⟩ := ih k (by simp at hk; omega) (fun d hd => hge d (by simp [hd])) (fun d q e => hf d (q ++ [c]) (by rw [e]; rfl))
    have ev : valF 0 (p ++ [c]) = valF 0 p * 128 + c.toNat % 128 := by rw [valF_append]; rfl
    have hnz : valF 0 (p ++ [c]) ≠ 0 := by
      rw [ev]
      by_cases hp : p = []
      · subst hp
        have := hf c [] rfl
        omega
      · have := h2 hp
        omega
    refine ⟨?_, fun _ => hnz⟩
    rw [hiF, if_neg hnz, ev, show (valF 0 p * 128 + c.toNat % 128) / 128 = valF 0 p by omega, h1]
    congr 1
    simp only [List.cons.injEq, and_true]
    apply UInt8.toNat_inj.1
    rw [u8_hi]
    omega

/-- What is found is a row. -/
theorem take_rowLen (l : List UInt8) (h0 : 0 < rowLen l) : l.take (rowLen l) = numRow (numVal l) := by
  obtain ⟨s1, s2, s3, s4, s5, s6⟩ := rowF_spec (l.headD 0) l 0 (rowLen l) (by simp [rowLen]) h0 (by omega)
  unfold numVal
  generalize rowLen l = k at *
  obtain ⟨k, rfl⟩ : ∃ j, k = j + 1 := ⟨k - 1, by clear s3 s4 s5; omega⟩
  obtain ⟨c, hc, hlt⟩ := s4
  have hk : k < l.length := by clear s3 s5; omega
  rw [Nat.add_sub_cancel, List.getElem?_eq_getElem hk] at hc
  injection hc with hc
  have et : l.take (k + 1) = l.take k ++ [c] := by rw [List.take_succ_eq_append_getElem hk, hc]
  have ev : valF 0 (l.take (k + 1)) = valF 0 (l.take k) * 128 + c.toNat % 128 := by rw [et, valF_append]; rfl
  have hh := hiF_valF (l.take k) 9 (by simp; clear s3 s5; omega) ?_ ?_
  · rw [numRow, ev, show (valF 0 (l.take k) * 128 + c.toNat % 128) / 128 = valF 0 (l.take k) by omega, hh.1, et]
    congr 1
    simp only [List.cons.injEq, and_true]
    apply UInt8.toNat_inj.1
    rw [u8_lo]
    omega
  · intro d hd
    obtain ⟨j, hj, rfl⟩ := List.mem_iff_getElem.1 hd
    have hj' : j < k := by simp at hj; clear s3 s5; omega
    obtain ⟨d', hd', hge⟩ := s3 j (by clear s3 s5; omega)
    rw [List.getElem?_eq_getElem (by clear s3 s5; omega)] at hd'
    injection hd' with hd'
    rw [List.getElem_take, hd']
    exact hge
  · intro d q e
    obtain ⟨d', hd', hne⟩ := s5 rfl
    have : (l.take k)[0]? = some d := by rw [e]; rfl
    rw [List.getElem?_take] at this
    split at this
    · rw [this] at hd'
      injection hd' with hd'
      rw [hd']
      exact hne
    · cases this

/-- The reference's count of bytes from 128 on at the beginning. -/
def hiCount : List UInt8 → Nat
  | [] => 0
  | c :: r => if 128 ≤ c.toNat then hiCount r + 1 else 0
theorem hiCount_le : ∀ l, hiCount l ≤ l.length
  | [] => by simp [hiCount]
  | c :: r => by
    have := hiCount_le r
    simp only [hiCount, List.length_cons]
    split <;> omega
theorem hiCount_of : ∀ (l : List UInt8) (k : Nat), (∀ j, j < k → ∃ c, l[j]? = some c ∧ 128 ≤ c.toNat) → (∀ c, l[k]? = some c → c.toNat < 128) → k ≤ l.length → hiCount l = k
  | [], k, _, _, h => by simp at h; simp [hiCount, h]
  | c :: r, 0, _, h2, _ => by
    have := h2 c rfl
    simp only [hiCount]
    rw [if_neg (by omega)]
  | c :: r, k + 1, h1, h2, h3 => by
    obtain ⟨d, hd, hge⟩ := h1 0 (by omega)
    simp at hd
    subst hd
    simp only [hiCount, if_pos hge]
    rw [hiCount_of r k (fun j hj => by
      obtain ⟨d, hd, hge⟩ := h1 (j + 1) (by omega)
      exact ⟨d, by simpa using hd, hge⟩) (fun d hd => h2 d (by simpa using hd)) (by simpa using h3)]
theorem hiCount_step (l : List UInt8) (i : Nat) (h : hiCount (l.drop i) + i = hiCount l) (hi : i < l.length) :
    (128 ≤ l[i].toNat → hiCount (l.drop (i + 1)) + (i + 1) = hiCount l) ∧ (¬ 128 ≤ l[i].toNat → hiCount l = i) := by
  rw [List.drop_eq_getElem_cons hi, hiCount] at h
  constructor
  · intro hc
    rw [if_pos hc] at h
    omega
  · intro hc
    rw [if_neg hc] at h
    omega

/-- What the reference finds: no row. -/
theorem ref_none (l : List UInt8) (h : l.length ≤ hiCount l ∨ 9 < hiCount l) : rowLen l = 0 := by
  rcases Nat.eq_zero_or_pos (rowLen l) with h0 | h0
  · exact h0
  · obtain ⟨s1, s2, s3, s4, s5, s6⟩ := rowF_spec (l.headD 0) l 0 (rowLen l) (by simp [rowLen]) h0 (by omega)
    have := hiCount_of l (rowLen l - 1) (fun j hj => s3 j (by clear s3 s4 s5; omega)) (fun c hc => by
      obtain ⟨d, hd, hlt⟩ := s4
      rw [hd] at hc
      injection hc with hc
      rw [← hc]
      exact hlt) (by clear s3 s4 s5; omega)
    clear s3 s4 s5
    omega
theorem ref_count (l : List UInt8) (h0 : 0 < rowLen l) : hiCount l + 1 = rowLen l := by
  obtain ⟨s1, s2, s3, s4, s5, s6⟩ := rowF_spec (l.headD 0) l 0 (rowLen l) (by simp [rowLen]) h0 (by omega)
  have := hiCount_of l (rowLen l - 1) (fun j hj => s3 j (by clear s3 s4 s5; omega)) (fun c hc => by
    obtain ⟨d, hd, hlt⟩ := s4
    rw [hd] at hc
    injection hc with hc
    rw [← hc]
    exact hlt) (by clear s3 s4 s5; omega)
  clear s3 s4 s5
  omega
/-- The reference's number, reckoned as far as 64 bits go. -/
def refVal (l : List UInt8) : Nat := valF 0 (l.take (hiCount l + 1)) % 18446744073709551616
theorem ref_other (l : List UInt8) (h : numRow (refVal l) ≠ l.take (hiCount l + 1)) : rowLen l = 0 := by
  rcases Nat.eq_zero_or_pos (rowLen l) with h0 | h0
  · exact h0
  · exfalso
    apply h
    have hc := ref_count l h0
    have hv := numVal_lt l (rowLen l) (Nat.le_refl _)
    unfold refVal
    rw [hc, Nat.mod_eq_of_lt hv]
    exact (take_rowLen l h0).symm
theorem ref_same (l : List UInt8) (hlt : hiCount l < l.length) (h : numRow (refVal l) = l.take (hiCount l + 1)) : rowLen l = hiCount l + 1 ∧ numVal l = refVal l := by
  have hr : refVal l < 18446744073709551616 := Nat.mod_lt _ (by decide)
  have e : numRow (refVal l) ++ l.drop (hiCount l + 1) = l := by rw [h, List.take_append_drop]
  have h1 := rowLen_numRow (refVal l) hr (l.drop (hiCount l + 1))
  rw [e, h, List.length_take, Nat.min_eq_left (by omega)] at h1
  refine ⟨h1, ?_⟩
  rw [numVal, h1, ← h, valF_numRow _ hr]
end Go.Proofs.Ytefgoaokndbbhaa
