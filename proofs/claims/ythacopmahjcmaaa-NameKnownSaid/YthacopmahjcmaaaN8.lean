/-
  The walk of NameBack.
-/
import Derived.Test.YthacopmahjcmaaaN7
namespace Go.Proofs.Ythacopmahjcmaaa
open Go.RowKit Go.Maps
set_option linter.unusedVariables false

theorem ltr_mem (N i : Nat) : LT.contains (ltr N i) = true := by
  have h : digN N i < 32 := Nat.mod_lt _ (by decide)
  rw [show ltr N i = LT.getD (digN N i) 0 from rfl]
  generalize digN N i = d at *
  have h2 : ∀ d : Fin 32, LT.contains (LT.getD d.val 0) = true := by decide
  exact h2 ⟨d, h⟩
theorem ltrs_all (N : Nat) : ∀ n, (ltrs N n).all (fun c => LT.contains c) = true
  | 0 => rfl
  | n + 1 => by rw [ltrs_succ, List.all_append, ltrs_all N n, List.all_cons, ltr_mem]; rfl
theorem isH_hash (l : List UInt8) : isH (hashL l) = true := by
  have h := hashL_len l
  rw [isH, h, show hashL l = ltrs (numL ((sumL l).take 20)) 32 from rfl, ltrs_all]; rfl

theorem split_join (h b : List UInt8) (hh : h.length = 32) (hi : isH h = true) (hb : nameE b = 0) : splitL (h ++ 45 :: b) = (h, b, 0) := by
  have e1 : (h ++ 45 :: b).getD 32 0 = 45 := by
    rw [List.getD, List.getElem?_append_right (by omega), hh]; rfl
  have e2 : (h ++ 45 :: b).take 32 = h := by rw [← hh]; simp
  have e3 : (h ++ 45 :: b).drop 33 = b := by
    rw [show 33 = h.length + 1 by omega, ← List.drop_drop, List.drop_left]; rfl
  rw [splitL, if_neg (by simp; omega), if_neg (by rw [e1]; decide), e2, e3, if_neg (by rw [hi]; decide), if_neg (by rw [hb]; decide)]

theorem split_cases (a : List UInt8) : splitL a = ([], [], 4) ∨ (splitL a = (a.take 32, a.drop 33, 0) ∧ pathL (a.take 32) (a.drop 33) = (a, 0)) := by
  by_cases h1 : a.length ≤ 32
  · left; rw [splitL, if_pos h1]
  · by_cases h2 : a.getD 32 0 ≠ 45
    · left; rw [splitL, if_neg h1, if_pos h2]
    · by_cases h3 : isH (a.take 32) = false
      · left; rw [splitL, if_neg h1, if_neg h2, if_pos h3]
      · by_cases h4 : nameE (a.drop 33) ≠ 0
        · left; rw [splitL, if_neg h1, if_neg h2, if_neg h3, if_pos h4]
        · right
          refine ⟨by rw [splitL, if_neg h1, if_neg h2, if_neg h3, if_neg h4], ?_⟩
          have h32 : 32 < a.length := by omega
          have h45 : a.getD 32 0 = 45 := Decidable.not_not.1 h2
          rw [pathL, if_neg h3, if_neg h4]
          have e : a.drop 32 = 45 :: a.drop 33 := by
            rw [List.drop_eq_getElem_cons h32]
            congr 1
            rw [← h45, List.getD, List.getElem?_eq_getElem h32]; rfl
          rw [← e, List.take_append_drop]

set_option maxRecDepth 100000 in
set_option maxHeartbeats 4000000 in
theorem nameBack_walk (a0 : ByteArray) (a1 : ByteArray) (w0 : a0.size ≤ maxLen) (w1 : a1.size ≤ maxLen) (w : World) : Calls Try.prog 11 #[.string a0, .string a1] w fun e w' => e = .returned (.bool true) ∧ Below w.heap.size w w' := by
  obtain ⟨⟨l0⟩⟩ := a0
  obtain ⟨⟨l1⟩⟩ := a1
  have hlen : l0.length ≤ maxLen := w0
  have hlen1 : l1.length ≤ maxLen := w1
  unfold maxLen at hlen hlen1
  clear w0 w1
  obtain ⟨n, hn, hmin, hn3⟩ : ∃ n : Nat, (n : Int) ≤ l0.length ∧ min (l0.length : Int) 60 = (n : Int) ∧ n ≤ 60 := ⟨min l0.length 60, by omega, by omega, by omega⟩
  obtain ⟨n1, hn1, hmin1, hn13⟩ : ∃ n : Nat, (n : Int) ≤ l1.length ∧ min (l1.length : Int) 60 = (n : Int) ∧ n ≤ 60 := ⟨min l1.length 60, by omega, by omega, by omega⟩
  go_enter Try.func11, Try.ntmps11
  go_wp2_with fail
  have hts : (l0.take n).length ≤ 60 := by rw [List.length_take]; omega
  have hts1 : (l1.take n1).length ≤ 60 := by rw [List.length_take]; omega
  generalize l0.take n = s at hts ⊢
  generalize l1.take n1 = t at hts1 ⊢
  clear hmin hn hlen hn3 hmin1 hn1 hlen1 hn13
  refine (hash_any s (by omega) _).mono ?_
  rintro e w1 ⟨rfl, hB1⟩
  have hhl := hashL_len s
  have hhi := isH_hash s
  generalize hashL s = h at hhl hhi ⊢
  have hsj := split_join h t hhl hhi
  have hpj : pathL h t = if nameE t ≠ 0 then ([], nameE t) else (h ++ 45 :: t, 0) := by rw [pathL, if_neg (by rw [hhi]; decide)]
  have hC := fun W => check_any t (by omega) W
  have hP := fun W => path_any h t (by omega) (by omega) W
  rw [hpj] at hP
  have hS := fun W => split_any (h ++ 45 :: t) (by rw [List.length_append, List.length_cons]; omega) W
  have hSs := fun W => split_any s (by omega) W
  have hPs := fun W => path_any (s.take 32) (s.drop 33) (by simp; omega) (by simp; omega) W
  have hsc := split_cases s
  obtain ⟨v, hv⟩ : ∃ v, v = nameE t := ⟨_, rfl⟩
  rw [← hv] at hsj hP hC
  have HC := hid hC
  have HS := hid hS
  have HSs := hid hSs
  have HPs := hid hPs
  have HSJ := hid hsj
  clear hpj hC hS hSs hPs hv hsj
  by_cases hz : v = 0
  · subst hz
    rw [if_neg (by decide)] at hP
    have HP := hid hP
    clear hP
    go_wp2_with fail
    refine (HP.out _).mono ?_
    rintro e w2 ⟨rfl, hB2⟩
    have hb2 := hB1.trans (hB2.mono hB1.size)
    clear hB1 hB2
    go_wp2_with fail
    refine (HC.out _).mono ?_
    rintro e w3 ⟨rfl, hB3⟩
    have hb3 := hb2.trans (hB3.mono hb2.size)
    clear hb2 hB3
    go_wp2_with fail
    refine (HS.out _).mono ?_
    rintro e w4 ⟨rfl, hB4⟩
    have hb4 := hb3.trans (hB4.mono hb3.size)
    clear hb3 hB4
    rw [HSJ.out trivial]
    go_wp2_with fail
    refine (HSs.out _).mono ?_
    rintro e wa ⟨rfl, hBa⟩
    have hba := hb4.trans (hBa.mono hb4.size)
    clear hBa
    rcases hsc with hsc | ⟨hsc, hpc⟩
    · rw [hsc]
      clear hsc HPs
      go_wp2_with fail
      refine (works_any _).mono ?_
      rintro e wb ⟨rfl, hBb⟩
      go_wp2_with fail
      go_ret
      exact ⟨by rfl, hba.trans (hBb.mono hba.size)⟩
    · rw [hsc]
      clear hsc
      go_wp2_with fail
      refine (HPs.out _).mono ?_
      rintro e wb ⟨rfl, hBb⟩
      rw [hpc]
      clear hpc HPs
      have hbb := hba.trans (hBb.mono hba.size)
      go_wp2_with fail
      refine (works_any _).mono ?_
      rintro e wc ⟨rfl, hBc⟩
      go_wp2_with fail
      go_ret
      exact ⟨by rfl, hbb.trans (hBc.mono hbb.size)⟩
  · rw [if_pos hz] at hP
    have HP := hid hP
    clear hP
    have hzb : (v == 0) = false := by simp [hz]
    go_wp2_with fail
    refine (HP.out _).mono ?_
    rintro e w2 ⟨rfl, hB2⟩
    have hb2 := hB1.trans (hB2.mono hB1.size)
    clear hB1 hB2
    go_wp2_with fail
    refine (HC.out _).mono ?_
    rintro e w3 ⟨rfl, hB3⟩
    have hb3 := hb2.trans (hB3.mono hb2.size)
    clear hb2 hB3
    go_wp2_with fail
    refine (HSs.out _).mono ?_
    rintro e wa ⟨rfl, hBa⟩
    have hba := hb3.trans (hBa.mono hb3.size)
    clear hBa
    rcases hsc with hsc | ⟨hsc, hpc⟩
    · rw [hsc]
      clear hsc HPs
      go_wp2_with fail
      refine (works_any _).mono ?_
      rintro e wb ⟨rfl, hBb⟩
      go_wp2_with fail
      go_ret
      exact ⟨by rfl, hba.trans (hBb.mono hba.size)⟩
    · rw [hsc]
      clear hsc
      go_wp2_with fail
      refine (HPs.out _).mono ?_
      rintro e wb ⟨rfl, hBb⟩
      rw [hpc]
      clear hpc HPs
      have hbb := hba.trans (hBb.mono hba.size)
      go_wp2_with fail
      refine (works_any _).mono ?_
      rintro e wc ⟨rfl, hBc⟩
      go_wp2_with fail
      go_ret
      exact ⟨by rfl, hbb.trans (hBc.mono hbb.size)⟩
end Go.Proofs.Ythacopmahjcmaaa
