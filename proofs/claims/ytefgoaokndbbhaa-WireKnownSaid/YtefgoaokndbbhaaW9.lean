/-
  The walks of WireGrows and WireStays.
-/
import Derived.Test.YtefgoaokndbbhaaW7
import Derived.Test.YtefgoaokndbbhaaPlain3
import Derived.Deep.DeepCutAuto
namespace Go.Proofs.Ytefgoaokndbbhaa
open Go.RowKit
set_option linter.unusedVariables false

theorem putNum_nil (n : Nat) (w : World) (hn : n < 18446744073709551616) :
    Calls Try.prog 9 #[.string ⟨#[]⟩, .int .u64 n] w fun e w' => e = .returned (.string ⟨(numRow n).toArray⟩) ∧ Below w.heap.size w w' :=
  putNum_any [] n w hn (by simp)

/-- Below, of a chain of callees. -/
theorem below_then {w w1 w2 : World} (h : Below w.heap.size w w1) (k : Below w1.heap.size w1 w2) : Below w.heap.size w w2 := h.trans (k.mono h.size)
theorem below_only {w w1 w2 : World} {g : Nat} (h : Below w.heap.size w w1) (k : Only g w1 w2) (hg : w.heap.size ≤ g) : Below w.heap.size w w2 := h.trans (k.below hg h.size)

set_option maxRecDepth 100000 in
set_option maxHeartbeats 2000000 in
theorem wireGrows_walk (a0 a1 : Int) (w0 : (Lit.int .u64 a0).wf = true) (w1 : (Lit.int .u64 a1).wf = true) (w : World) :
    Calls Try.prog 6 #[.int .u64 a0, .int .u64 a1] w fun e w' => e = .returned (.bool true) ∧ Below w.heap.size w w' := by
  obtain ⟨a, rfl, ha⟩ := u64_nat a0 w0
  obtain ⟨b, rfl, hb⟩ := u64_nat a1 w1
  obtain ⟨X, hX⟩ : ∃ X, X = numRow a := ⟨_, rfl⟩
  obtain ⟨Y, hY⟩ : ∃ Y, Y = numRow b := ⟨_, rfl⟩
  have hXl : X.length ≤ 10 := by rw [hX]; exact numRow_len a
  have hYl : Y.length ≤ 10 := by rw [hY]; exact numRow_len b
  have hless : X.length = Y.length → Op.bytesLess X Y = decide (a < b) := by rw [hX, hY]; exact numRow_less a b ha hb
  have hlong : X.length < Y.length → a < b := by rw [hX, hY]; exact numRow_longer a b ha hb
  have hmul : 0 < a → a < 144115188075855872 → (numRow (a * 128)).length = X.length + 1 := by rw [hX]; exact numRow_len_mul a
  obtain ⟨e1, e2, e3⟩ := num_of_row a ha Y
  obtain ⟨f1, f2, f3⟩ := num_of_row b hb []
  rw [List.append_nil] at f1 f2 f3
  rw [← hX] at e1 e2 e3
  rw [← hY] at f1 f2 f3
  have P1 := putNum_nil a w ha
  rw [← hX] at P1
  have P2 := fun W => putNum_nil b W hb
  rw [← hY] at P2
  have N1 := fun g W hr => num_any g (X ++ Y) false W hr (by simp; omega)
  rw [e1, e2, e3] at N1
  have N2 := fun g W hr => num_any g Y false W hr (by omega)
  rw [f1, f2, f3] at N2
  have HP1 := hid P1
  have HP2 := hid P2
  have HN1 := hid N1
  have HN2 := hid N2
  have HX := hid hX
  have HL := hid hless
  have HG := hid hlong
  have HM := hid hmul
  clear P1 P2 N1 N2 hX hY hless hlong hmul e1 e2 e3 f1 f2 f3 w0 w1
  go_enter Try.func6, Try.ntmps6
  go_wp2_with fail
  refine HP1.out.mono ?_
  rintro e w2 ⟨rfl, hb2⟩
  go_wp2_with fail
  refine (HP2.out _).mono ?_
  rintro e w3 ⟨rfl, hb3⟩
  go_wp2_with fail
  go_loopg [7, 8] (a / 128) (fun m v7 v8 wr => ∃ k f : Nat, v8 = .int .u64 m ∧ v7 = .int .i64 k ∧ f ≤ 9 ∧ m < 128 ^ f ∧ (hiF f m).length + k = X.length ∧ w3 = wr)
  case atStart => exact ⟨1, 9, int_cast (by omega), rfl, by omega, by simp; omega, by rw [HX.out]; simp [numRow], rfl⟩
  case round =>
    obtain ⟨k, f, rfl, rfl, hf, hm, hk, rfl⟩ := hrel
    have hmb : gk < 9223372036854775808 := Nat.lt_of_lt_of_le hm (Nat.le_trans (Nat.pow_le_pow_right (by omega) hf) (by decide))
    by_cases h0 : gk = 0
    · subst h0
      rw [hiF_zero, List.length_nil, Nat.zero_add] at hk
      subst hk
      clear hm hmb
      have hc9 : Hid (a = 0 ∨ (0 < a ∧ a < 144115188075855872 ∧ (numRow (a * 128)).length = X.length + 1) ∨ 144115188075855872 ≤ a) := by
        rcases Nat.eq_zero_or_pos a with h | h
        · exact Or.inl h
        · rcases Nat.lt_or_ge a 144115188075855872 with q | q
          · exact Or.inr (Or.inl ⟨h, q, HM.out h q⟩)
          · exact Or.inr (Or.inr q)
      have h7 : X.length ≤ Y.length ∧ Y.length ≤ X.length ∧ Op.bytesLess X Y = decide (a < b) ∨ X.length < Y.length ∧ a < b ∨ Y.length < X.length := by
        rcases Nat.lt_trichotomy X.length Y.length with h | h | h
        · exact Or.inr (Or.inl ⟨h, HG.out h⟩)
        · exact Or.inl ⟨by omega, by omega, HL.out h⟩
        · exact Or.inr (Or.inr h)
      go_upto_region 7 with fail
      go_cut [53] (fun s53 wx => s53 = .bool false ∧ w3 = wx)
      case first =>
        rcases h7 with ⟨h7, h7', h7b⟩ | ⟨h7, h7b⟩ | h7
        · have h7c : ((X.length : Int) == (Y.length : Int)) = true := by simp; omega
          go_wp2_with fail
          go_meet
          exact ⟨rfl, rfl⟩
        · have h7c : ((X.length : Int) == (Y.length : Int)) = false := by simp; omega
          have h7d : decide (b ≤ a) = false := by simp; omega
          go_wp2_with fail
          go_meet
          exact ⟨rfl, rfl⟩
        · have h7c : ((X.length : Int) == (Y.length : Int)) = false := by simp; omega
          go_wp2_with fail
          go_meet
          exact ⟨rfl, rfl⟩
      case rest =>
        obtain ⟨rfl, rfl⟩ := hcut
        clear h7
        go_upto_region 9 with fail
        go_cut [68] (fun s68 wx => s68 = .bool false ∧ Below w3.heap.size w3 wx)
        case first =>
          rcases hc9.out with rfl | ⟨h1, h2, h3⟩ | h1
          · go_wp2_with fail
            go_meet
            exact ⟨rfl, Below.refl _ _⟩
          · have HH := hid h3
            have hd : decide ((a : Int) < 144115188075855872) = true := by simp; omega
            have hlt : a * 128 < 18446744073709551616 := by omega
            have hl10 := numRow_len (a * 128)
            have he : (a : Int) * 128 = ((a * 128 : Nat) : Int) := by omega
            have HE := hid he
            clear h3 h2 he
            go_wp2_with fail
            rw [HE.out]
            refine (putNum_nil (a * 128) _ hlt).mono ?_
            rintro e w4 ⟨rfl, hb4⟩
            rw [← HE.out]
            have hn : (((numRow (a * 128)).length : Int) != (X.length : Int) + 1) = false := by rw [HH.out]; simp
            go_wp2_with fail
            go_meet
            exact ⟨rfl, hb4⟩
          · have hd : decide ((a : Int) < 144115188075855872) = false := by simp; omega
            have hp : 0 < a := by omega
            clear h1
            go_wp2_with fail
            go_meet
            exact ⟨rfl, Below.refl _ _⟩
        case rest =>
          obtain ⟨rfl, hb4⟩ := hcut
          go_wp2_with fail
          refine (newReader_any (X ++ Y) _).mono ?_
          rintro e w5 ⟨g, rfl, hg5, hr5, hb5⟩
          go_wp2_with fail
          refine (HN1.out g _ hr5).mono ?_
          rintro e w6 ⟨rfl, hr6, ho6⟩
          go_wp2_with fail
          refine (HN2.out g _ hr6).mono ?_
          rintro e w7 ⟨rfl, hr7, ho7⟩
          go_wp2_with fail
          refine (end_any g _ _ _ hr7).mono ?_
          rintro e w8 ⟨rfl, rfl⟩
          go_wp2_with fail
          refine (works_any _).mono ?_
          rintro e w8 ⟨rfl, hb8⟩
          go_wp2_with fail
          go_ret
          have c1 := below_then (below_then hb2 hb3) hb4
          have s1 := c1.size
          have c2 := below_only (below_only (below_then c1 hb5) ho6 (by omega)) ho7 (by omega)
          exact ⟨rfl, below_then c2 hb8⟩
    · obtain ⟨f, rfl⟩ : ∃ j, f = j + 1 := by
        rcases Nat.eq_zero_or_pos f with h | h
        · subst h; simp at hm; omega
        · exact ⟨f - 1, by omega⟩
      have hmp : 0 < gk := by omega
      have hstep : (hiF f (gk / 128)).length + (k + 1) = X.length := by
        rw [hiF, if_neg h0] at hk
        simp at hk
        omega
      have hmf : gk / 128 < 128 ^ f := by rw [Nat.pow_succ] at hm; omega
      have hkl : k ≤ 10 := by omega
      have HS := hid hstep
      have HF := hid hmf
      clear hm hk hstep hmf
      go_wp2_with fail
      go_roundg (gk / 128)
      case measure => go_light; omega
      case rel => exact ⟨k + 1, f, int_cast (by omega), int_cast (by omega), by omega, HF.out, HS.out, rfl⟩
end Go.Proofs.Ytefgoaokndbbhaa
