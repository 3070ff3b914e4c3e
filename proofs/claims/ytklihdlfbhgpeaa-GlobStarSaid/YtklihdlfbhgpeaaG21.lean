/-
  The walk of GlobStar.
-/
import Derived.Test.YtklihdlfbhgpeaaG20
namespace Go.Proofs.Ytklihdlfbhgpeaa
open Go.RowKit
set_option linter.unusedVariables false

theorem chs_between (a b : List UInt8) : chs [⟨a, true, false⟩, ⟨[42], false, false⟩, ⟨b, true, false⟩] = a.map (fun b => (b, true)) ++ (42, false) :: b.map (fun b => (b, true)) := by simp [chs, chr]

set_option maxRecDepth 100000 in
set_option maxHeartbeats 2000000 in
theorem globStar_list (a0 b0 s0 : List UInt8) (w : World) :
    Calls Try.prog 5 #[.string ⟨a0.toArray⟩, .string ⟨b0.toArray⟩, .string ⟨s0.toArray⟩] w fun e w' => e = .returned (.bool true) ∧ Below w.heap.size w w' := by
  obtain ⟨ma, hma⟩ : ∃ m, m = min a0.length 10 := ⟨_, rfl⟩
  obtain ⟨mb, hmb⟩ : ∃ m, m = min b0.length 10 := ⟨_, rfl⟩
  obtain ⟨ms, hms⟩ : ∃ m, m = min s0.length 30 := ⟨_, rfl⟩
  have f1 : min (a0.length : Int) 10 = (ma : Int) := by omega
  have f2 : (ma : Int) ≤ a0.length := by omega
  have f3 : (0 : Int) ≤ (ma : Int) := by omega
  have f4 : min (b0.length : Int) 10 = (mb : Int) := by omega
  have f5 : (mb : Int) ≤ b0.length := by omega
  have f6 : (0 : Int) ≤ (mb : Int) := by omega
  have f7 : min (s0.length : Int) 30 = (ms : Int) := by omega
  have f8 : (ms : Int) ≤ s0.length := by omega
  have f9 : (0 : Int) ≤ (ms : Int) := by omega
  have la : (a0.take ma).length = ma := by rw [List.length_take]; omega
  have lb : (b0.take mb).length = mb := by rw [List.length_take]; omega
  have ls : (s0.take ms).length = ms := by rw [List.length_take]; omega
  have hA : ma ≤ 10 := by omega
  have hB : mb ≤ 10 := by omega
  have hS : ms ≤ 30 := by omega
  have LA := hid la
  have LB := hid lb
  have LS := hid ls
  have FA : (ma : Int) ≤ 10 := by omega
  have FB : (mb : Int) ≤ 10 := by omega
  have FS : (ms : Int) ≤ 30 := by omega
  clear hma hmb hms
  go_enter Try.func5, Try.ntmps5
  have HPN := hid (fun W => pat_new W [⟨a0.take ma, true, false⟩, ⟨[42], false, false⟩, ⟨b0.take mb, true, false⟩] (by simp) (by simp; omega) (by simp [chs, chr]; omega))
  clear la lb ls
  have hq : (a0.take ma).length ≤ 10 := by rw [LA.out]; omega
  have hq2 : (s0.take ms).length ≤ 30 := by rw [LS.out]; omega
  have hq3 : (b0.take mb).length ≤ 10 := by rw [LB.out]; omega
  have hq4 : (a0.take ma ++ s0.take ms).length ≤ 40 := by rw [List.length_append, LA.out, LS.out]; omega
  by_cases hge : ma + mb ≤ ms
  · have hgI : (ma : Int) + mb ≤ ms := by omega
    go_wp2_with fail
    refine (works_any _).mono ?_
    rintro e w1 ⟨rfl, hb1⟩
    go_wp2_with fail
    refine (Try.strings_HasPrefix _ _ _).mono ?_
    rintro e w2 ⟨rfl, hw2⟩
    have HP := hid (HPN.out w1)
    have hk : Below w.heap.size w (w1.alloc (.cells (rnv [⟨a0.take ma, true, false⟩, ⟨[42], false, false⟩, ⟨b0.take mb, true, false⟩]).toArray 33)) := hb1.alloc hb1.size _
    subst hw2
    obtain ⟨o1, ho1⟩ : ∃ o, o = (a0.take ma).isPrefixOf (s0.take ms) := ⟨_, rfl⟩
    have hl1 : Lib.hasPrefix (ByteArray.mk (s0.take ms).toArray).data.toList (ByteArray.mk (a0.take ma).toArray).data.toList = o1 := by rw [ho1]; simp [Lib.hasPrefix]
    rw [hl1]
    have HO1 := hid ho1
    clear hl1 ho1
    cases o1 with
    | false =>
      go_wp2_with fail
      have h1 := match_any' (some ⟨w1.heap.size, 0, none⟩) 3 [⟨a0.take ma, true, false⟩, ⟨[42], false, false⟩, ⟨b0.take mb, true, false⟩] (s0.take ms) (by rw [LS.out]; omega) _ HP.out
      rw [chs_between, match_between, LA.out, LB.out, LS.out, decide_eq_true hge, ← HO1.out, Bool.false_and, Bool.and_false] at h1
      refine h1.mono ?_
      rintro e w3 ⟨rfl, hb3⟩
      have hk3 := hk.trans (hb3.mono hk.size)
      have HP3 := hid (HP.out.below hb3)
      clear h1 hb3
      go_wp2_with fail
      have h2 := match_any' (some ⟨w1.heap.size, 0, none⟩) 3 [⟨a0.take ma, true, false⟩, ⟨[42], false, false⟩, ⟨b0.take mb, true, false⟩] (a0.take ma ++ (s0.take ms ++ b0.take mb)) (by rw [List.length_append, List.length_append, LA.out, LB.out, LS.out]; omega) w3 HP3.out
      rw [chs_between, ← List.append_assoc, match_around, List.append_assoc] at h2
      refine h2.mono ?_
      rintro e w4 ⟨rfl, hb4⟩
      have hk4 := hk3.trans (hb4.mono hk3.size)
      have HP4 := hid (HP3.out.below hb4)
      clear h2 hb4
      go_wp2_with fail
      have h3 := magic_any (some ⟨w1.heap.size, 0, none⟩) 3 [⟨a0.take ma, true, false⟩, ⟨[42], false, false⟩, ⟨b0.take mb, true, false⟩] w4 HP4.out
      rw [chs_between, ← odd_magic, odd_between] at h3
      refine h3.mono ?_
      rintro e w5 ⟨rfl, hb5⟩
      have hk5 := hk4.trans (hb5.mono hk4.size)
      clear h3 hb5
      go_wp2_with fail
      go_ret
      exact ⟨rfl, hk5⟩
    | true =>
      go_wp2_with fail
      refine (Try.strings_HasSuffix _ _ _ (by simp [ByteArray.size]; omega)).mono ?_
      rintro e w2 ⟨rfl, hw2⟩
      subst hw2
      obtain ⟨o2, ho2⟩ : ∃ o, o = (b0.take mb).isSuffixOf (s0.take ms) := ⟨_, rfl⟩
      have hl2 : Lib.hasSuffix (ByteArray.mk (s0.take ms).toArray).data.toList (ByteArray.mk (b0.take mb).toArray).data.toList = o2 := by rw [ho2]; simp [Lib.hasSuffix]
      rw [hl2]
      have HO2 := hid ho2
      clear hl2 ho2
      go_wp2_with fail
      have h1 := match_any' (some ⟨w1.heap.size, 0, none⟩) 3 [⟨a0.take ma, true, false⟩, ⟨[42], false, false⟩, ⟨b0.take mb, true, false⟩] (s0.take ms) (by rw [LS.out]; omega) _ HP.out
      rw [chs_between, match_between, LA.out, LB.out, LS.out, decide_eq_true hge, ← HO1.out, ← HO2.out, Bool.true_and, Bool.true_and] at h1
      refine h1.mono ?_
      rintro e w3 ⟨rfl, hb3⟩
      have hk3 := hk.trans (hb3.mono hk.size)
      have HP3 := hid (HP.out.below hb3)
      clear h1 hb3
      go_wp2_with fail
      have h2 := match_any' (some ⟨w1.heap.size, 0, none⟩) 3 [⟨a0.take ma, true, false⟩, ⟨[42], false, false⟩, ⟨b0.take mb, true, false⟩] (a0.take ma ++ (s0.take ms ++ b0.take mb)) (by rw [List.length_append, List.length_append, LA.out, LB.out, LS.out]; omega) w3 HP3.out
      rw [chs_between, ← List.append_assoc, match_around, List.append_assoc] at h2
      refine h2.mono ?_
      rintro e w4 ⟨rfl, hb4⟩
      have hk4 := hk3.trans (hb4.mono hk3.size)
      have HP4 := hid (HP3.out.below hb4)
      clear h2 hb4
      go_wp2_with fail
      have h3 := magic_any (some ⟨w1.heap.size, 0, none⟩) 3 [⟨a0.take ma, true, false⟩, ⟨[42], false, false⟩, ⟨b0.take mb, true, false⟩] w4 HP4.out
      rw [chs_between, ← odd_magic, odd_between] at h3
      refine h3.mono ?_
      rintro e w5 ⟨rfl, hb5⟩
      have hk5 := hk4.trans (hb5.mono hk4.size)
      clear h3 hb5
      go_wp2_with fail
      go_ret
      exact ⟨rfl, hk5⟩
  · have hgI : ¬ (ma : Int) + mb ≤ ms := by omega
    have HG := hid hge
    clear hge
    go_wp2_with fail
    refine (works_any _).mono ?_
    rintro e w1 ⟨rfl, hb1⟩
    go_wp2_with fail
    have HP := hid (HPN.out w1)
    have hk : Below w.heap.size w (w1.alloc (.cells (rnv [⟨a0.take ma, true, false⟩, ⟨[42], false, false⟩, ⟨b0.take mb, true, false⟩]).toArray 33)) := hb1.alloc hb1.size _
    have h1 := match_any' (some ⟨w1.heap.size, 0, none⟩) 3 [⟨a0.take ma, true, false⟩, ⟨[42], false, false⟩, ⟨b0.take mb, true, false⟩] (s0.take ms) (by rw [LS.out]; omega) _ HP.out
    rw [chs_between, match_between, LA.out, LB.out, LS.out, decide_eq_false HG.out, Bool.false_and] at h1
    refine h1.mono ?_
    rintro e w3 ⟨rfl, hb3⟩
    have hk3 := hk.trans (hb3.mono hk.size)
    have HP3 := hid (HP.out.below hb3)
    clear h1 hb3
    go_wp2_with fail
    have h2 := match_any' (some ⟨w1.heap.size, 0, none⟩) 3 [⟨a0.take ma, true, false⟩, ⟨[42], false, false⟩, ⟨b0.take mb, true, false⟩] (a0.take ma ++ (s0.take ms ++ b0.take mb)) (by rw [List.length_append, List.length_append, LA.out, LB.out, LS.out]; omega) w3 HP3.out
    rw [chs_between, ← List.append_assoc, match_around, List.append_assoc] at h2
    refine h2.mono ?_
    rintro e w4 ⟨rfl, hb4⟩
    have hk4 := hk3.trans (hb4.mono hk3.size)
    have HP4 := hid (HP3.out.below hb4)
    clear h2 hb4
    go_wp2_with fail
    have h3 := magic_any (some ⟨w1.heap.size, 0, none⟩) 3 [⟨a0.take ma, true, false⟩, ⟨[42], false, false⟩, ⟨b0.take mb, true, false⟩] w4 HP4.out
    rw [chs_between, ← odd_magic, odd_between] at h3
    refine h3.mono ?_
    rintro e w5 ⟨rfl, hb5⟩
    have hk5 := hk4.trans (hb5.mono hk4.size)
    clear h3 hb5
    go_wp2_with fail
    go_ret
    exact ⟨rfl, hk5⟩
theorem globStar_walk (a b s : ByteArray) (w : World) :
    Calls Try.prog 5 #[.string a, .string b, .string s] w fun e w' => e = .returned (.bool true) ∧ Below w.heap.size w w' := by
  rw [bytes_list a, bytes_list b, bytes_list s]
  exact globStar_list _ _ _ w
end Go.Proofs.Ytklihdlfbhgpeaa
