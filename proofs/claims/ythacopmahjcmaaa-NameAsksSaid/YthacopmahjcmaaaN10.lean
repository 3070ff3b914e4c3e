/-
  The walks of the reference's Split and of NameAsks.
-/
import Derived.Test.YthacopmahjcmaaaN9
namespace Go.Proofs.Ythacopmahjcmaaa
open Go.RowKit Go.Maps
set_option linter.unusedVariables false

/-- The reference's Split. -/
def refSplitL (l : List UInt8) : List UInt8 × List UInt8 × Int :=
  if l.length < 34 then ([], [], 4) else if isH (l.take 32) = false then ([], [], 4) else if l.getD 32 0 ≠ 45 then ([], [], 4) else
  if nameE (l.drop 33) ≠ 0 then ([], [], 4) else (l.take 32, l.drop 33, 0)
theorem refSplitL_is (l : List UInt8) : refSplitL l = splitL l := by
  by_cases h1 : l.length ≤ 32
  · rw [splitL, if_pos h1, refSplitL, if_pos (by omega)]
  · by_cases h2 : l.length < 34
    · have e : l.drop 33 = [] := List.drop_eq_nil_of_le (by omega)
      rw [refSplitL, if_pos h2, splitL, if_neg h1, e]
      rw [show nameE [] = 2 from rfl]
      split
      · rfl
      · split
        · rfl
        · rfl
    · rw [refSplitL, if_neg h2, splitL, if_neg h1]
      by_cases h3 : isH (l.take 32) = false
      · rw [if_pos h3, if_pos h3]; split <;> rfl
      · rw [if_neg h3, if_neg h3]

set_option maxRecDepth 100000 in
set_option maxHeartbeats 1000000 in
theorem refSplit_any (l : List UInt8) (hl : l.length ≤ 1000) (w : World) :
    Calls Try.prog 23 #[.string ⟨l.toArray⟩] w fun e w' => e = .returned (.tuple #[.string ⟨(splitL l).1.toArray⟩, .string ⟨(splitL l).2.1.toArray⟩, .int .i64 (splitL l).2.2]) ∧ Below w.heap.size w w' := by
  rw [← refSplitL_is]
  by_cases h34 : l.length < 34
  · have hi : (l.length : Int) < 34 := by omega
    go_enter Try.func23, Try.ntmps23
    go_wp2_with fail
    go_ret3
    exact ⟨by rw [refSplitL, if_pos h34]; rfl, Below.refl _ _⟩
  · have hi : ¬ (l.length : Int) < 34 := by omega
    have hix := fun W => run_index_at (P := Try.prog) 9 Try.underlying9 l 32 (by omega) _ rfl 32 rfl .i64 W
    obtain ⟨a, ha⟩ : ∃ a, a = l.getD 32 0 := ⟨_, rfl⟩
    rw [← ha] at hix
    have hs1 : (32 : Int) ≤ l.length := by omega
    have hs2 : (33 : Int) ≤ l.length := by omega
    have hdef : refSplitL l = if isH (l.take 32) = false then ([], [], 4) else if a ≠ 45 then ([], [], 4) else if nameE (l.drop 33) ≠ 0 then ([], [], 4) else (l.take 32, l.drop 33, 0) := by
      rw [refSplitL, if_neg h34, ← ha]
    have HD := hid hdef
    clear hdef ha
    go_enter Try.func23, Try.ntmps23
    go_wp2_with fail
    refine (is_any (l.take 32) (by simp; omega) _).mono ?_
    rintro e w1 ⟨rfl, q1, hq1⟩
    have hb1 : Below w.heap.size w w1 := by rw [hq1]; exact below_drewN (Below.refl _ _) _
    clear hq1
    cases hi : isH (l.take 32) with
    | false =>
      have HI := hid hi
      clear hi
      go_wp2_with fail
      go_ret3
      exact ⟨by rw [HD.out, if_pos HI.out]; rfl, hb1⟩
    | true =>
      have HI := hid hi
      clear hi
      by_cases h45 : a = 45
      · subst h45
        go_wp2_with fail
        refine (refCheck_any (l.drop 33) (by simp; omega) _).mono ?_
        rintro e w2 ⟨rfl, q2, hq2⟩
        have hb2 : Below w.heap.size w w2 := by rw [hq2]; exact below_drewN hb1 _
        clear hq2 hb1
        obtain ⟨v, hv⟩ : ∃ v, v = nameE (l.drop 33) := ⟨_, rfl⟩
        rw [← hv]
        have HV := hid hv
        clear hv
        by_cases hz : v = 0
        · subst hz
          go_wp2_with fail
          go_quiet (fail)
          go_wp2_with fail
          go_ret3
          exact ⟨by rw [HD.out, if_neg (by rw [HI.out]; decide), if_neg (by decide), if_neg (by rw [← HV.out]; decide)]; rfl, below_drewN hb2 _⟩
        · have hzb : (v == 0) = false := by simp [hz]
          go_wp2_with fail
          go_ret3
          exact ⟨by rw [HD.out, if_neg (by rw [HI.out]; decide), if_neg (by decide), if_pos (by rw [← HV.out]; exact hz)]; rfl, hb2⟩
      · have hab : ((a.toNat : Int) == 45) = false := by
          rw [beq_eq_false_iff_ne]
          intro e
          apply h45
          exact UInt8.toNat_inj.1 (by have : a.toNat = 45 := by omega
                                      rw [this]; rfl)
        have hne : ¬ (a.toNat : Int) = 45 := by rwa [beq_eq_false_iff_ne] at hab
        go_wp2_with fail
        go_ret3
        exact ⟨by rw [HD.out, if_neg (by rw [HI.out]; decide), if_pos h45]; rfl, hb1⟩

set_option maxRecDepth 100000 in
set_option maxHeartbeats 4000000 in
theorem nameAsks_walk (a0 : ByteArray) (a1 : ByteArray) (w0 : a0.size ≤ maxLen) (w1 : a1.size ≤ maxLen) (w : World) : Calls Try.prog 9 #[.string a0, .string a1] w fun e w' => e = .returned (.bool true) ∧ Below w.heap.size w w' := by
  obtain ⟨⟨l0⟩⟩ := a0
  obtain ⟨⟨l1⟩⟩ := a1
  have hlen : l0.length ≤ maxLen := w0
  have hlen1 : l1.length ≤ maxLen := w1
  unfold maxLen at hlen hlen1
  clear w0 w1
  obtain ⟨n, hn, hmin, hn3⟩ : ∃ n : Nat, (n : Int) ≤ l0.length ∧ min (l0.length : Int) 100 = (n : Int) ∧ n ≤ 100 := ⟨min l0.length 100, by omega, by omega, by omega⟩
  obtain ⟨n1, hn1, hmin1, hn13⟩ : ∃ n : Nat, (n : Int) ≤ l1.length ∧ min (l1.length : Int) 100 = (n : Int) ∧ n ≤ 100 := ⟨min l1.length 100, by omega, by omega, by omega⟩
  go_enter Try.func9, Try.ntmps9
  go_wp2_with fail
  have hts : (l0.take n).length ≤ 100 := by rw [List.length_take]; omega
  have hts1 : (l1.take n1).length ≤ 100 := by rw [List.length_take]; omega
  generalize l0.take n = s at hts ⊢
  generalize l1.take n1 = t at hts1 ⊢
  clear hmin hn hlen hn3 hmin1 hn1 hlen1 hn13
  have H1 := hid (fun W => path_any s t (by omega) (by omega) W)
  have H2 := hid (fun W => refPath_any s t (by omega) (by omega) W)
  have H3 := hid (fun W => split_any s (by omega) W)
  have H4 := hid (fun W => refSplit_any s (by omega) W)
  have H5 := hid (fun W => check_any s (by omega) W)
  have H6 := hid (fun W => refCheck_any s (by omega) W)
  have H7 := hid (fun W => check_any t (by omega) W)
  have H8 := hid (fun W => refCheck_any t (by omega) W)
  refine (H1.out _).mono ?_
  rintro e w1 ⟨rfl, hB1⟩
  go_wp2_with fail
  refine (H2.out _).mono ?_
  rintro e w2 ⟨rfl, hB2⟩
  have hb2 := hB1.trans (hB2.mono hB1.size)
  clear hB1 hB2
  go_wp2_with fail
  refine (H3.out _).mono ?_
  rintro e w3 ⟨rfl, hB3⟩
  have hb3 := hb2.trans (hB3.mono hb2.size)
  clear hb2 hB3
  go_wp2_with fail
  refine (H4.out _).mono ?_
  rintro e w4 ⟨rfl, hB4⟩
  have hb4 := hb3.trans (hB4.mono hb3.size)
  clear hb3 hB4
  go_wp2_with fail
  refine (H5.out _).mono ?_
  rintro e w5 ⟨rfl, hB5⟩
  have hb5 := hb4.trans (hB5.mono hb4.size)
  clear hb4 hB5
  go_wp2_with fail
  refine (H6.out _).mono ?_
  rintro e w6 ⟨rfl, q6, hq6⟩
  have hb6 : Below w.heap.size w w6 := by rw [hq6]; exact below_drewN hb5 _
  clear hb5 hq6
  go_wp2_with fail
  refine (H7.out _).mono ?_
  rintro e w7 ⟨rfl, hB7⟩
  have hb7 := hb6.trans (hB7.mono hb6.size)
  clear hb6 hB7
  go_wp2_with fail
  refine (H8.out _).mono ?_
  rintro e w8 ⟨rfl, q8, hq8⟩
  have hb8 : Below w.heap.size w w8 := by rw [hq8]; exact below_drewN hb7 _
  clear hb7 hq8
  go_wp2_with fail
  refine (works_any _).mono ?_
  rintro e w9 ⟨rfl, hB9⟩
  go_wp2_with fail
  go_ret
  exact ⟨by rfl, hb8.trans (hB9.mono hb8.size)⟩
end Go.Proofs.Ythacopmahjcmaaa
