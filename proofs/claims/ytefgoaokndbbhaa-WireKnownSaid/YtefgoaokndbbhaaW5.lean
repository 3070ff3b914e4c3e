import Derived.Test.YtefgoaokndbbhaaW4
namespace Go.Proofs.Ytefgoaokndbbhaa
open Go.RowKit
set_option linter.unusedVariables false

theorem valF_snoc (l : List UInt8) (j : Nat) (h : j < l.length) : valF 0 (l.take (j + 1)) = valF 0 (l.take j) * 128 + l[j].toNat % 128 := by
  rw [List.take_succ_eq_append_getElem h, valF_append]
  rfl

set_option maxHeartbeats 400000 in
theorem num_any (g : Nat) (l : List UInt8) (lost : Bool) (w : World) (hr : Rdr w g l lost) (hl : l.length ≤ 1048576) :
    Calls Try.prog 15 #[.pointer (some ⟨g, 0, none⟩)] w fun e w' => e = .returned (.int .u64 (numVal l)) ∧ Rdr w' g (numRest l) (numLost l lost) ∧ Only g w w' := by
  by_cases hk0 : rowLen l = 0
  · have e1 : numVal l = 0 := by simp [numVal, hk0, valF]
    have e2 : numRest l = [] := by simp [numRest, hk0]
    have e3 : numLost l lost = true := by simp [numLost, hk0]
    rw [e1, e2, e3]
    have HK := hid hk0
    clear e1 e2 e3 hk0
    go_enter Try.func15, Try.ntmps15
    go_wp2_with (go_at_call 23; refine (take_row_no g l lost _ hr hl HK.out).mono ?_; rintro e w' ⟨rfl, hr', ho'⟩)
    refine wp_loop_rounds 1 ?_
    rw [rounds_succ]
    go_wp2
    go_ret
    exact ⟨rfl, hr', ho'⟩
  · obtain ⟨k, hk⟩ : ∃ k, k = rowLen l := ⟨_, rfl⟩
    have e1 : numVal l = valF 0 (l.take k) := by rw [numVal, ← hk]
    have e2 : numRest l = l.drop k := by rw [numRest, if_neg hk0, ← hk]
    have e3 : numLost l lost = lost := by simp [numLost, hk0]
    rw [e1, e2, e3]
    have hv : ∀ j, j ≤ k → valF 0 (l.take j) < 18446744073709551616 := fun j hj => numVal_lt l j (by omega)
    have hkl := rowLen_le l
    have hkp : 0 < k := by omega
    rw [← hk] at hkl
    have HK := hid hk
    have HV := hid hv
    clear e1 e2 e3 hk0 hk hv
    go_enter Try.func15, Try.ntmps15
    go_wp2_with (go_at_call 23; refine (take_row_yes g l lost _ hr hl k HK.out hkp).mono ?_; rintro e w1 ⟨A, c, rfl, hrd, hr', ho'⟩)
    go_loopg [8, 2] k (fun m v8 v2 wr => ∃ j : Nat, m + j = k ∧ v8 = .int .i64 j ∧ v2 = .int .u64 (valF 0 (l.take j)) ∧ w1 = wr)
    case atStart => exact ⟨0, by omega, rfl, rfl, rfl⟩
    case round =>
      obtain ⟨j, hj, rfl, rfl, rfl⟩ := hrel
      by_cases hlt : j < k
      · obtain ⟨b, off, u, rfl, _, _, hu, hc⟩ := hrd.at_ hlt
        have hjl : j < l.length := by omega
        rw [bv_get _ j (by simp; omega)] at hu
        injection hu with hu
        subst hu
        simp only [List.getElem_take] at hc
        have hs := valF_snoc l j hjl
        have h1 := HV.out (j + 1) (by omega)
        have h2 := l[j].toNat_lt
        rw [hs] at h1
        generalize l[j].toNat = x at *
        generalize valF 0 (l.take j) = z at *
        have HS := hid hs
        have HJ := hid hj
        clear hs hj hrd hr'
        go_wp2
        go_roundg (gk - 1)
        case measure => go_light; have := HJ.out; omega
        case rel =>
          go_light
          have := HJ.out
          exact ⟨j + 1, by omega, int_cast (by omega), int_cast (by rw [HS.out]; omega), rfl⟩
      · obtain rfl : j = k := by omega
        clear hj
        go_wp2
        go_ret
        exact ⟨rfl, hr', ho'⟩

/-- What Text leaves. -/
def TxtOk (g : Nat) (l : List UInt8) (lost : Bool) (w : World) (e : Ending) (w' : World) : Prop :=
  e = .returned (.string ⟨(txtVal l).toArray⟩) ∧ Rdr w' g (txtRest l) (txtLost l lost) ∧ Only g w w'

theorem numRest_le (l : List UInt8) : (numRest l).length ≤ l.length := by
  unfold numRest
  split <;> simp

set_option maxHeartbeats 400000 in
theorem text_any (g : Nat) (l : List UInt8) (lost : Bool) (w : World) (hr : Rdr w g l lost) (hl : l.length ≤ 1048576) :
    Calls Try.prog 17 #[.pointer (some ⟨g, 0, none⟩)] w (TxtOk g l lost w) := by
  have hnv := numVal_lt l (rowLen l) (Nat.le_refl _)
  have hgl : g < w.heap.size := by
    obtain ⟨A, n, c, ha, _⟩ := hr
    exact ha.lt
  rw [show valF 0 (l.take (rowLen l)) = numVal l from rfl] at hnv
  have hrl := numRest_le l
  obtain ⟨m, hm⟩ : ∃ m, m = numVal l := ⟨_, rfl⟩
  obtain ⟨r, hre⟩ : ∃ r, r = numRest l := ⟨_, rfl⟩
  obtain ⟨lo, hlo⟩ : ∃ lo, lo = numLost l lost := ⟨_, rfl⟩
  have hnum := num_any g l lost w hr hl
  rw [← hm] at hnv hnum
  rw [← hre] at hrl hnum
  rw [← hlo] at hnum
  have NUM := hid hnum
  have hT : TxtOk g l lost w = fun e w' => e = .returned (.string ⟨(if m ≤ r.length then r.take m else []).toArray⟩) ∧ Rdr w' g (if m ≤ r.length then r.drop m else []) (if m ≤ r.length then lo else true) ∧ Only g w w' := by
    funext e w'
    unfold TxtOk txtVal txtRest txtLost
    rw [← hm, ← hre, ← hlo]
  by_cases h0 : m = 0
  · subst h0
    simp only [Nat.zero_le, if_true, List.take_zero, List.drop_zero] at hT
    rw [hT]
    clear hT hnum hm hre hlo hnv
    go_enter Try.func17, Try.ntmps17
    go_wp2_with (go_at_call 15; refine NUM.out.mono ?_; rintro e w1 ⟨rfl, hr1, ho1⟩)
    go_ret
    exact ⟨rfl, hr1.below ((Below.refl _ _).alloc (Nat.le_refl _) _), ho1.alloc _⟩
  · have h1 : ((m : Int) == 0) = false := by simp; omega
    by_cases h2 : m ≤ r.length
    · simp only [h2, if_true] at hT
      rw [hT]
      clear hT hnum hm hre hlo
      go_enter Try.func17, Try.ntmps17
      go_wp2_with (go_at_call 15; refine NUM.out.mono ?_; rintro e w1 ⟨rfl, hr1, ho1⟩)
      have hr2 : Rdr (w1.alloc (.cells #[.int .u64 m] 22)) g r lo := hr1.below ((Below.refl _ _).alloc (Nat.le_refl _) _)
      refine (take_text_yes g _ r lo _ hr2 (by omega) m (by omega) h2 (At.new _ _ _)).mono ?_
      rintro e w2 ⟨A, c, rfl, hrd, hr3, ho3⟩
      go_wp2_with (refine wpList_string_of rfl (.tmp 10) 27 9 5 rfl Try.underlying27 Try.underlying5 Try.underlying9 g _ _ _ rfl (r.take m) hrd ?_)
      go_ret
      exact ⟨rfl, hr3, (ho1.alloc _).trans ho3⟩
    · simp only [h2, if_false] at hT
      rw [hT]
      clear hT hnum hm hre hlo
      go_enter Try.func17, Try.ntmps17
      go_wp2_with (go_at_call 15; refine NUM.out.mono ?_; rintro e w1 ⟨rfl, hr1, ho1⟩)
      have hr2 : Rdr (w1.alloc (.cells #[.int .u64 m] 22)) g r lo := hr1.below ((Below.refl _ _).alloc (Nat.le_refl _) _)
      refine (take_text_no g _ r lo _ hr2 (by omega) m (by omega) hnv (At.new _ _ _)).mono ?_
      rintro e w2 ⟨rfl, hr3, ho3⟩
      go_wp2_with (refine wpList_string_of rfl (.tmp 10) 27 9 5 rfl Try.underlying27 Try.underlying5 Try.underlying9 g _ _ _ rfl [] Rd.nil ?_)
      go_ret
      exact ⟨rfl, hr3, (ho1.alloc _).trans ho3⟩
end Go.Proofs.Ytefgoaokndbbhaa
