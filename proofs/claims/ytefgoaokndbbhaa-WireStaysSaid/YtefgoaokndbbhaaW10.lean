/-
  The walk of WireStays.
-/
import Derived.Test.YtefgoaokndbbhaaW9
namespace Go.Proofs.Ytefgoaokndbbhaa
open Go.RowKit
set_option linter.unusedVariables false

set_option maxRecDepth 100000 in
set_option maxHeartbeats 2000000 in
theorem wireStays_walk (a0 a1 : ByteArray) (w0 : a0.size ≤ maxLen) (w1 : a1.size ≤ maxLen) (w : World) :
    Calls Try.prog 7 #[.string a0, .string a1] w fun e w' => e = .returned (.bool true) ∧ Below w.heap.size w w' := by
  obtain ⟨l, rfl⟩ := bytes_eq a0
  obtain ⟨k, rfl⟩ := bytes_eq a1
  go_enter Try.func7, Try.ntmps7
  go_wp2_with fail
  go_region
  have q1 := cut_len l 200
  have q2 := cut_len k 200
  simp only [Int.cast_ofNat_Int] at q1 q2
  generalize List.take _ l = t at *
  generalize List.take _ k = s at *
  generalize (if (200 : Int) < (l.length : Int) then (200 : Int) else (l.length : Int)) = m1
  generalize (if (200 : Int) < (k.length : Int) then (200 : Int) else (k.length : Int)) = m2
  have hrl := numRow_len t.length
  go_wp2_with fail
  refine (putText_any [] t _ (by simp) (by omega)).mono ?_
  rintro e w2 ⟨rfl, hb2⟩
  rw [List.nil_append]
  go_wp2_with fail
  refine (newReader_any (numRow t.length ++ (t ++ s)) _).mono ?_
  rintro e w3 ⟨g, rfl, hg3, hr3, hb3⟩
  obtain ⟨e1, e2, e3⟩ := txt_of_row t s (by omega)
  have T1 := text_any g _ false _ hr3 (by simp; omega)
  unfold TxtOk at T1
  rw [e1, e2, e3] at T1
  have HT1 := hid T1
  clear T1 e1 e2 e3
  go_wp2_with fail
  refine HT1.out.mono ?_
  rintro e w4 ⟨rfl, hr4, ho4⟩
  go_wp2_with fail
  refine (ok_any g _ _ _ hr4).mono ?_
  rintro e w5 ⟨rfl, rfl⟩
  go_wp2_with fail
  refine (end_any g _ _ _ hr4).mono ?_
  rintro e w5 ⟨rfl, rfl⟩
  go_wp2_with fail
  have hv := numVal_lt s (rowLen s) (Nat.le_refl _)
  rw [show valF 0 (s.take (rowLen s)) = numVal s from rfl] at hv
  have hfin : numLost s false = true ∨ (numLost s false = false ∧ (numRow (numVal s)).length ≤ s.length ∧ s.take (numRow (numVal s)).length = numRow (numVal s)) := by
    by_cases hz : rowLen s = 0
    · exact Or.inl (by simp [numLost, hz])
    · have h1 := take_rowLen s (by omega)
      have h2 : (numRow (numVal s)).length = rowLen s := by rw [← h1, List.length_take]; have := rowLen_le s; omega
      exact Or.inr ⟨by simp [numLost, hz], by rw [h2]; exact rowLen_le s, by rw [h2]; exact h1⟩
  have N1 := fun g W hr => num_any g s false W hr (by omega)
  obtain ⟨m, hm⟩ : ∃ m, m = numVal s := ⟨_, rfl⟩
  obtain ⟨r, hr⟩ : ∃ r, r = numRest s := ⟨_, rfl⟩
  obtain ⟨lo, hlo⟩ : ∃ lo, lo = numLost s false := ⟨_, rfl⟩
  rw [← hm] at hv hfin N1
  rw [← hr, ← hlo] at N1
  rw [← hlo] at hfin
  have HN := hid N1
  have HF := hid hfin
  clear N1 hfin hm hr hlo
  have hml := numRow_len m
  refine (HN.out g _ hr4).mono ?_
  rintro e w5 ⟨rfl, hr5, ho5⟩
  go_wp2_with fail
  refine (ok_any g _ _ _ hr5).mono ?_
  rintro e w6 ⟨rfl, rfl⟩
  go_wp2_with fail
  refine (newReader_any s _).mono ?_
  rintro e w6 ⟨q, rfl, hg6, hr6, hb6⟩
  go_wp2_with fail
  refine (HN.out q _ hr6).mono ?_
  rintro e w7 ⟨rfl, hr7, ho7⟩
  go_wp2_with fail
  refine (ok_any q _ _ _ hr7).mono ?_
  rintro e w8 ⟨rfl, rfl⟩
  go_wp2_with fail
  refine (putNum_nil m _ hv).mono ?_
  rintro e w8 ⟨rfl, hb8⟩
  have c0 := below_of_drew hb2
  have c1 := below_then c0 hb3
  have s1 := c0.size
  have s2 := hb3.size
  have c2 := below_only (below_only c1 ho4 (by omega)) ho5 (by omega)
  have c3 := below_then (below_only (below_then c2 hb6) ho7 (by have := c2.size; omega)) hb8
  clear s1 s2 c0 c1 c2
  rcases HF.out with rfl | ⟨rfl, f1, f2⟩
  · go_wp2_with fail
    refine (works_any _).mono ?_
    rintro e w9 ⟨rfl, hb9⟩
    go_wp2_with fail
    go_ret
    exact ⟨rfl, below_then c3 hb9⟩
  · have f3 : (s.take (numRow m).length == numRow m) = true := by rw [f2]; simp
    have f1' : ((numRow m).length : Int) ≤ (s.length : Int) := by omega
    clear f2
    go_wp2_with fail
    refine (works_any _).mono ?_
    rintro e w9 ⟨rfl, hb9⟩
    go_wp2_with fail
    go_ret
    exact ⟨rfl, below_then c3 hb9⟩
end Go.Proofs.Ytefgoaokndbbhaa
