import Derived.Test.YtefgoaokndbbhaaW1
namespace Go.Proofs.Ytefgoaokndbbhaa
open Go.RowKit

def PR (w : World) (n : Nat) (v1 v5 : Value) (wr : World) : Prop :=
  ∃ (k m : Nat) (suf : List UInt8), k ≤ 9 ∧ m < 128 ^ k ∧ v1 = .int .u64 m ∧ v5 = .string ⟨suf.toArray⟩ ∧ hiF k m ++ suf = numRow n ∧ Below w.heap.size w wr

set_option maxHeartbeats 400000 in
theorem refPutNum_any (l : List UInt8) (n : Nat) (w : World) (hn : n < 18446744073709551616) (hl : l.length ≤ 1048576) :
    Calls Try.prog 10 #[.string ⟨l.toArray⟩, .int .u64 n] w fun e w' => e = .returned (.string ⟨(l ++ numRow n).toArray⟩) ∧ Below w.heap.size w w' := by
  have h0 : Rd (w.alloc (.cells #[.int .u8 ((n : Int) % 128)] 5)) (w.heap.size + 1) (some ⟨w.heap.size, 0, none⟩) 1 (bv [loB n]) :=
    Rd.of_at (At.new _ _ _) (by omega) (by rw [bv_cons, u8_lo, bv_nil]; simp) (by simp [bv])
  go_enter Try.func10, Try.ntmps10
  go_wp2_with (refine wpList_string_of rfl (.tmp 9) 27 9 5 rfl Try.underlying27 Try.underlying5 Try.underlying9 (w.heap.size + 1) _ _ _ rfl [loB n] h0 ?_)
  go_loopw [1, 5] (fun v1 v5 wr => PR w n v1 v5 wr) (fun v1 _ _ => (intOf v1).toNat)
  case atStart =>
    exact ⟨9, n / 128, [loB n], by omega, by simp; omega, by simp, by simp, rfl, (Below.refl _ _).alloc (Nat.le_refl _) _⟩
  case round =>
    obtain ⟨k, m, suf, hk, hm, rfl, rfl, hr, hb⟩ := hrel
    have hmb : m < 9223372036854775808 := Nat.lt_of_lt_of_le hm (Nat.le_trans (Nat.pow_le_pow_right (by omega) hk) (by decide))
    have hsl : suf.length ≤ 10 := by have := congrArg List.length hr; have := numRow_len n; simp at *; omega
    by_cases h0 : m = 0
    · subst h0
      rw [hiF_zero, List.nil_append] at hr
      subst hr
      clear hm
      go_wp2
      go_ret
      exact ⟨rfl, hb⟩
    · obtain ⟨k, rfl⟩ : ∃ j, k = j + 1 := by
        rcases Nat.eq_zero_or_pos k with h | h
        · subst h; simp at hm; omega
        · exact ⟨k - 1, by omega⟩
      have hmp : 0 < m := by omega
      have h1 : Rd (wr.alloc (.cells #[.int .u8 ((m : Int) % 128 + 128)] 5)) (wr.heap.size + 1) (some ⟨wr.heap.size, 0, none⟩) 1 (bv [hiB m]) :=
        Rd.of_at (At.new _ _ _) (by omega) (by rw [bv_cons, u8_hi, bv_nil]; simp) (by simp [bv])
      have HN : Hid (PR w n (.int .u64 ((m : Int) / 128)) (.string ⟨(hiB m :: suf).toArray⟩) (wr.alloc (.cells #[.int .u8 ((m : Int) % 128 + 128)] 5))) := by
        refine ⟨k, m / 128, _, by omega, ?_, by simp, rfl, ?_, hb.alloc hb.size _⟩
        · rw [Nat.pow_succ] at hm
          omega
        · rw [← hr, hiF, if_neg (by omega)]
          simp
      clear hm hr
      go_wp2_with (refine wpList_string_of rfl (.tmp 21) 27 9 5 rfl Try.underlying27 Try.underlying5 Try.underlying9 (wr.heap.size + 1) _ _ _ rfl [hiB m] h1 ?_)
      go_roundw
      case rel => exact HN.out
      case measure => simp [intOf]; omega
end Go.Proofs.Ytefgoaokndbbhaa
