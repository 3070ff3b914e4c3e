/-
  The walks of ShaIs and ShaLong.
-/
import Derived.Test.YthacopmahjcmaaaS12
namespace Go.Proofs.Ythacopmahjcmaaa
open Go.RowKit
set_option linter.unusedVariables false

set_option maxRecDepth 100000 in
set_option maxHeartbeats 1000000 in
theorem shaIs_walk (a0 : ByteArray) (w0 : a0.size ≤ maxLen) (w : World) :
    Calls Try.prog 3 #[.string a0] w fun e w' => e = .returned (.bool true) ∧ Below w.heap.size w w' := by
  obtain ⟨⟨l⟩⟩ := a0
  go_enter Try.func3, Try.ntmps3
  go_wp2_with fail
  all_goals
    refine (sum_any _ (by first | omega | (simp; omega)) _).mono ?_
    rintro e w1 ⟨rfl, hB1⟩
    go_wp2_with fail
    refine (refSum_any _ (by first | omega | (simp; omega)) _).mono ?_
    rintro e w2 ⟨rfl, hB2⟩
    have hb2 : Below w.heap.size w w2 := hB1.trans (hB2.mono hB1.size)
    go_wp2_with fail
    refine (works_any _).mono ?_
    rintro e w3 ⟨rfl, hB3⟩
    have hb3 : Below w.heap.size w w3 := hb2.trans (hB3.mono hb2.size)
    go_wp2_with fail
    go_ret
    exact ⟨rfl, hb3⟩

theorem u16_nat {a : Int} (h : (Lit.int .u16 a).wf = true) : ∃ n : Nat, a = (n : Int) ∧ n < 65536 := by
  simp only [Lit.wf, Bool.and_eq_true, decide_eq_true_eq] at h
  have h1 : (0 : Int) ≤ a := h.1
  have h2 : a ≤ 65535 := h.2
  exact ⟨a.toNat, by omega, by omega⟩
set_option maxRecDepth 100000 in
set_option maxHeartbeats 1000000 in
theorem shaLong_walk (a0 : ByteArray) (a1 : Int) (w0 : a0.size ≤ maxLen) (w1 : (Lit.int .u16 a1).wf = true) (w : World) :
    Calls Try.prog 4 #[.string a0, .int .u16 a1] w fun e w' => e = .returned (.bool true) ∧ Below w.heap.size w w' := by
  obtain ⟨⟨l⟩⟩ := a0
  obtain ⟨n, rfl, hn⟩ := u16_nat w1
  clear w1
  go_enter Try.func4, Try.ntmps4
  go_wp2_with fail
  all_goals
    first | (have hL : (100 : Int) < (l.length : Int) := by assumption
             generalize hQ : List.take 100 l ++ [46] = q) | generalize hQ : l ++ [46] = q
    have hql : q.length ≤ 101 ∧ 1 ≤ q.length := by rw [← hQ]; simp; omega
    obtain ⟨hq1, hq2⟩ := hql
    clear hQ
    go_loopg [5] 2200 (fun m v5 wx => ∃ t : List UInt8, m + t.length = 2200 ∧ t.length ≤ 2100 ∧ v5 = .string ⟨t.toArray⟩ ∧ w = wx)
    case atStart => exact ⟨[], rfl, by simp, rfl, rfl⟩
    case round =>
      obtain ⟨t, hm, ht, rfl, rfl⟩ := hrel
      have HM := hid hm
      clear hm
      have n1 : (n : Int) % 2000 < 2000 := by omega
      have n2 : (0 : Int) ≤ (n : Int) % 2000 := by omega
      by_cases hlt : (t.length : Int) < (n : Int) % 2000
      · go_wp2_with fail
        go_roundg (2200 - (t ++ q).length)
        case measure => go_light; have := HM.out; rw [List.length_append]; omega
        case rel =>
          go_light
          have := HM.out
          exact ⟨t ++ q, by rw [List.length_append]; omega, by rw [List.length_append]; omega, rfl, rfl⟩
      · go_wp2_with fail
        refine (sum_any _ (by simp; omega) _).mono ?_
        rintro e w1 ⟨rfl, hB1⟩
        go_wp2_with fail
        refine (refSum_any _ (by simp; omega) _).mono ?_
        rintro e w2 ⟨rfl, hB2⟩
        have hb2 : Below w.heap.size w w2 := hB1.trans (hB2.mono hB1.size)
        go_wp2_with fail
        refine (works_any _).mono ?_
        rintro e w3 ⟨rfl, hB3⟩
        have hb3 : Below w.heap.size w w3 := hb2.trans (hB3.mono hb2.size)
        go_wp2_with fail
        go_ret
        exact ⟨rfl, hb3⟩
end Go.Proofs.Ythacopmahjcmaaa
