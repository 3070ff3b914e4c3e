import Derived.Test.YtefgoaokndbbhaaW2
namespace Go.Proofs.Ytefgoaokndbbhaa
open Go.RowKit

set_option maxHeartbeats 400000 in
theorem putText_any (l t : List UInt8) (w : World) (hl : l.length ≤ 1048576) (ht : t.length ≤ 1048576) :
    Calls Try.prog 11 #[.string ⟨l.toArray⟩, .string ⟨t.toArray⟩] w fun e w' => e = .returned (.string ⟨(l ++ (numRow t.length ++ t)).toArray⟩) ∧ Below w.heap.size w w' := by
  have hr := numRow_len t.length
  go_enter Try.func11, Try.ntmps11
  go_wp2_with (go_at_call 9; refine (putNum_any l t.length _ (by omega) hl).mono ?_; rintro e w' ⟨rfl, hb⟩)
  go_ret
  exact ⟨rfl, hb⟩

set_option maxHeartbeats 400000 in
theorem refPutText_any (l t : List UInt8) (w : World) (hl : l.length ≤ 1048576) (ht : t.length ≤ 1048576) :
    Calls Try.prog 12 #[.string ⟨l.toArray⟩, .string ⟨t.toArray⟩] w fun e w' => e = .returned (.string ⟨(l ++ (numRow t.length ++ t)).toArray⟩) ∧ Below w.heap.size w w' := by
  have hr := numRow_len t.length
  go_enter Try.func12, Try.ntmps12
  go_wp2_with (go_at_call 10; refine (refPutNum_any l t.length _ (by omega) hl).mono ?_; rintro e w' ⟨rfl, hb⟩)
  go_ret
  exact ⟨rfl, hb⟩

/-- Block g is a reader that has l left. -/
def Rdr (w : World) (g : Nat) (l : List UInt8) (lost : Bool) : Prop :=
  ∃ A n c, At w g 45 #[.slice A n c, .bool lost] ∧ n ≤ c ∧ Rd w g A n (bv l)

theorem Rdr.only {w w' : World} {g h : Nat} {l : List UInt8} {lost : Bool} (r : Rdr w g l lost) (ho : Only h w w') (hne : g ≠ h) (hh : w.heap.size ≤ h) : Rdr w' g l lost := by
  obtain ⟨A, n, c, ha, hc, hr⟩ := r
  exact ⟨A, n, c, ho.at_ ha hne, hc, hr.below (ho.below hh (Nat.le_refl _))⟩
theorem Rdr.below {w w' : World} {g : Nat} {l : List UInt8} {lost : Bool} (r : Rdr w g l lost) (ho : Below w.heap.size w w') : Rdr w' g l lost := by
  obtain ⟨A, n, c, ha, hc, hr⟩ := r
  exact ⟨A, n, c, ha.below ho ha.lt, hc, hr.below ho⟩

set_option maxHeartbeats 400000 in
theorem newReader_any (l : List UInt8) (w : World) :
    Calls Try.prog 14 #[.string ⟨l.toArray⟩] w fun e w' => ∃ g, e = .returned (.pointer (some ⟨g, 0, none⟩)) ∧ w.heap.size ≤ g ∧ Rdr w' g l false ∧ Below w.heap.size w w' := by
  go_enter Try.func14, Try.ntmps14
  go_wp2_with (refine wpList_bytes_of rfl (.tmp 3) 9 27 5 rfl Try.underlying9 Try.underlying27 Try.underlying5 l rfl ?_; intro w1 c hc1 hlc hb1 hs1)
  go_ret
  refine ⟨_, rfl, by omega, ⟨_, _, c, At.new' _ _ _ hs1, hlc, ?_⟩, hb1.alloc hb1.size _⟩
  refine ⟨bv_length l, fun _ => ⟨w.heap.size, 0, rfl, by omega, by simp; omega, fun j u hu => ?_⟩⟩
  rw [World.cell?_alloc_lt _ _ _ (by simp; omega), Nat.zero_add]
  exact hc1 j u hu

set_option maxHeartbeats 400000 in
theorem ok_any (g : Nat) (l : List UInt8) (lost : Bool) (w : World) (hr : Rdr w g l lost) :
    Calls Try.prog 19 #[.pointer (some ⟨g, 0, none⟩)] w fun e w' => e = .returned (.bool !lost) ∧ w = w' := by
  obtain ⟨A, n, c, ha, hc, hr⟩ := hr
  have h1 : w.cell? ⟨g, 1, none⟩ = some (.bool lost) := by rw [ha.cell]; rfl
  go_enter Try.func19, Try.ntmps19
  go_wp2
  go_ret
  exact ⟨rfl, rfl⟩

set_option maxHeartbeats 400000 in
theorem end_any (g : Nat) (l : List UInt8) (lost : Bool) (w : World) (hr : Rdr w g l lost) :
    Calls Try.prog 21 #[.pointer (some ⟨g, 0, none⟩)] w fun e w' => e = .returned (.bool (!lost && l.isEmpty)) ∧ w = w' := by
  have hr0 := hr
  obtain ⟨A, n, c, ha, hc, hr⟩ := hr
  have h1 : w.cell? ⟨g, 0, none⟩ = some (.slice A n c) := by rw [ha.cell]; rfl
  have hn : ((n : Int) == 0) = l.isEmpty := by
    have := hr.1
    rw [bv_length] at this
    subst this
    cases l <;> simp
    omega
  have HN := hid hn
  clear hn
  cases lost
  · go_enter Try.func21, Try.ntmps21
    go_wp2_with (go_at_call 19; refine (ok_any g l false _ hr0).mono ?_; rintro e w' ⟨rfl, rfl⟩)
    go_ret
    exact ⟨congrArg (fun b => Ending.returned (.bool b)) HN.out, rfl⟩
  · go_enter Try.func21, Try.ntmps21
    go_wp2_with (go_at_call 19; refine (ok_any g l true _ hr0).mono ?_; rintro e w' ⟨rfl, rfl⟩)
    go_ret
    exact ⟨rfl, rfl⟩

theorem row_step (l : List UInt8) (i : Nat) (hlt : i < l.length) (h : rowF (l.headD 0) i (l.drop i) = rowLen l) (x y : Nat) (hx : x = l[i].toNat) (hy : y = l[0].toNat) :
    ((i = 0 ∧ x = 128 ∨ i = 9 ∧ 129 < y ∨ i = 10) → rowLen l = 0) ∧ (¬ (i = 0 ∧ x = 128 ∨ i = 9 ∧ 129 < y ∨ i = 10) → x < 128 → rowLen l = i + 1) ∧
    (¬ (i = 0 ∧ x = 128 ∨ i = 9 ∧ 129 < y ∨ i = 10) → ¬ x < 128 → rowF (l.headD 0) (i + 1) (l.drop (i + 1)) = rowLen l) := by
  have e0 : l.headD 0 = l[0] := by cases l with
    | nil => simp at hlt
    | cons a r => rfl
  have ex : l[i] = 128 ↔ x = 128 := by rw [hx, ← UInt8.toNat_inj]; rfl
  have ey : (129 : UInt8) < l[0] ↔ 129 < y := by rw [hy, UInt8.lt_iff_toNat_lt]; rfl
  have el : l[i] < 128 ↔ x < 128 := by rw [hx, UInt8.lt_iff_toNat_lt]; rfl
  rw [List.drop_eq_getElem_cons hlt, rowF, e0] at h
  simp only [ex, ey, el] at h
  rw [e0]
  refine ⟨fun c => ?_, fun c d => ?_, fun c d => ?_⟩
  · rw [if_pos c] at h; exact h.symm
  · rw [if_neg c, if_pos d] at h; exact h.symm
  · rw [if_neg c, if_neg d] at h; exact h

set_option maxRecDepth 100000 in
set_option maxHeartbeats 400000 in
theorem row_any (A : Option Addr) (n c g : Nat) (l : List UInt8) (w : World) (hr : Rd w g A n (bv l)) (hl : l.length ≤ 1048576) :
    Calls Try.prog 24 #[.slice A n c] w fun e w' => e = .returned (.int .i64 (rowLen l : Int)) ∧ w = w' := by
  have hn : l.length = n := by rw [← bv_length]; exact hr.1
  subst hn
  go_enter Try.func24, Try.ntmps24
  go_wp2
  go_loopg [7] l.length (fun k v7 wr => ∃ i : Nat, k + i = l.length ∧ v7 = .int .i64 i ∧ rowF (l.headD 0) i (l.drop i) = rowLen l ∧ i ≤ 10 ∧ wr = w)
  case atStart => exact ⟨0, by omega, rfl, rfl, by omega, rfl⟩
  case round =>
    obtain ⟨i, hk, rfl, hrow, hi10, rfl⟩ := hrel
    by_cases hlt : i < l.length
    · obtain ⟨b, off, u, rfl, _, _, hu, hc⟩ := hr.at_ hlt
      obtain ⟨_, _, u0, he, _, _, hu0, hc0⟩ := hr.at_ (show 0 < l.length by omega)
      injection he with he
      injection he with he1 he2
      subst he1 he2
      rw [bv_get l i hlt] at hu
      rw [bv_get l 0 (by omega)] at hu0
      injection hu with hu
      injection hu0 with hu0
      subst hu hu0
      rw [Nat.add_zero] at hc0
      have hbi : l[i].toNat < 256 := l[i].toNat_lt
      have hb1 : l[0].toNat < 256 := l[0].toNat_lt
      obtain ⟨x, hX⟩ : ∃ x, x = l[i].toNat := ⟨_, rfl⟩
      obtain ⟨y, hY⟩ : ∃ y, y = l[0].toNat := ⟨_, rfl⟩
      rw [← hX] at hc hbi
      rw [← hY] at hc0 hb1
      obtain ⟨H1, H2, H3⟩ := row_step l i hlt hrow x y hX hY
      have G1 := hid H1
      have G2 := hid H2
      have G3 := hid H3
      have HK := hid hk
      clear hrow hr H1 H2 H3 hX hY hk
      go_wp2
      all_goals first
        | (go_ret
           refine ⟨ret_int ?_, rfl⟩
           go_light
           simp only [beq_iff_eq, beq_eq_false_iff_ne, ne_eq] at *
           first
             | (rw [G1.out (by omega)]; rfl)
             | (rw [G2.out (by omega) (by omega)]; omega))
        | (go_roundg (gk - 1)
           case measure => go_light; have := HK.out; omega
           case rel =>
             go_light
             simp only [beq_eq_false_iff_ne, ne_eq] at *
             have := HK.out
             exact ⟨i + 1, by omega, int_cast (by omega), G3.out (by omega) (by omega), by omega, trivial⟩)
    · have hz : l.drop i = [] := List.drop_of_length_le (by omega)
      rw [hz, rowF] at hrow
      have HR := hid hrow
      clear hrow hr hz hk
      go_wp2
      go_ret
      exact ⟨ret_int (by rw [← HR.out]; rfl), rfl⟩
end Go.Proofs.Ytefgoaokndbbhaa
