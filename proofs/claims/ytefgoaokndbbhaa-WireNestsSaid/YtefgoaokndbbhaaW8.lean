/-
  The walk of WireAsked: a reader and the reference's reader, asked the same, answer the same.
-/
import Derived.Test.YtefgoaokndbbhaaW7
namespace Go.Proofs.Ytefgoaokndbbhaa
open Go.RowKit
set_option linter.unusedVariables false

theorem isRow_at {k : IntKind} {w : World} {a : Option Addr} {len cap : Nat} {zs : List Int} (h : IsRow k w a len cap zs) {i : Nat} (hi : i < len) :
    ∃ b off z, a = some ⟨b, off, none⟩ ∧ b < w.heap.size ∧ w.cell? ⟨b, off + i, none⟩ = some (.int k z) ∧ (Lit.int k z).wf = true ∧ z = zs.getD i 0 := by
  rcases h with ⟨rfl, rfl, rfl, rfl⟩ | ⟨x, rfl, hl, hm, hz, hcell, hwz⟩
  · omega
  · obtain ⟨b, off, spot⟩ := x
    have hc := hcell i (by omega)
    have hspot : spot = none := by
      have h0 := World.cell?_spot (hcell 0 (by omega))
      simpa [Addr.add] using h0
    subst hspot
    have e : (⟨b, off, none⟩ : Addr).add i = ⟨b, off + i, none⟩ := by unfold Addr.add; split <;> simp_all
    rw [e] at hc
    refine ⟨b, off, zs.getD i 0, rfl, World.block_lt_of_cell? w _ hc, hc, hwz _ ?_, rfl⟩
    have hlt : i < zs.length := by omega
    simp [List.getD, List.getElem?_eq_getElem hlt]

theorem Rdr.at_ne {w : World} {g h : Nat} {l k : List UInt8} {lost lo : Bool} (r : Rdr w g l lost) (rr : RefRdr w h k lo) : g ≠ h := by
  obtain ⟨A, n, c, ha, _⟩ := r
  exact ha.ne rr (by decide)
theorem Rdr.onlyRef {w w' : World} {g h : Nat} {l k : List UInt8} {lost lo : Bool} (r : Rdr w g l lost) (rr : RefRdr w h k lo) (ho : Only h w w') : Rdr w' g l lost := by
  have hne := r.at_ne rr
  obtain ⟨A, n, c, ha, hc, hr⟩ := r
  refine ⟨A, n, c, ho.at_ ha hne, hc, hr.1, fun hn => ?_⟩
  obtain ⟨b, off, e, hb1, hb2, hcell⟩ := hr.2 hn
  have hbh : b ≠ h := by
    rintro rfl
    have hl : 0 < l.length := by have := hr.1; rw [bv_length] at this; omega
    have h1 := hcell 0 _ (bv_get l 0 hl)
    rw [At.cell rr] at h1
    rcases off with _ | _ | off <;> simp at h1
  exact ⟨b, off, e, hb1, by have := ho.size; omega, fun j u hu => (ho.cell (p := ⟨b, off + j, none⟩) hb2 hbh).trans (hcell j u hu)⟩
theorem RefRdr.only {w w' : World} {g h : Nat} {l k : List UInt8} {lost lo : Bool} (rr : RefRdr w h k lo) (r : Rdr w g l lost) (ho : Only g w w') : RefRdr w' h k lo :=
  ho.at_ rr (r.at_ne rr).symm

theorem txtRest_le (l : List UInt8) : (txtRest l).length ≤ l.length := by
  have := numRest_le l
  unfold txtRest
  split <;> simp; omega

def ASK (w : World) (g h : Nat) (n : Nat) (m : Nat) (v7 : Value) (wr : World) : Prop :=
  ∃ (i : Nat) (l : List UInt8) (lost : Bool), m + i = n + 1 ∧ v7 = .int .i64 i ∧ l.length ≤ 1500 ∧ Rdr wr g l lost ∧ RefRdr wr h l lost ∧ Below w.heap.size w wr

set_option maxRecDepth 100000 in
set_option maxHeartbeats 1000000 in
theorem wireAsked_walk (a0 : ByteArray) (a1 : Option Addr) (len1 cap1 : Nat) (z1 : List Int) (w : World) (w0 : a0.size ≤ maxLen) (w1 : IsRow .u8 w a1 len1 cap1 z1) :
    Calls Try.prog 4 #[.string a0, .slice a1 len1 cap1] w fun e w' => e = .returned (.bool true) ∧ Below w.heap.size w w' := by
  obtain ⟨l, rfl⟩ := bytes_eq a0
  have hcap : len1 ≤ 9223372036854775807 := by
    rcases w1 with ⟨_, rfl, _⟩ | ⟨x, _, hl, hm, _⟩
    · omega
    · unfold maxLen at hm; omega
  go_enter Try.func4, Try.ntmps4
  go_wp2_with fail
  all_goals
    obtain ⟨s, hs, q1⟩ : ∃ s, s = l.take 1500 ∧ s.length ≤ 1500 := ⟨_, rfl, by rw [List.length_take]; omega⟩
    first
      | (have hh : (1500 : Int) < (l.length : Int) := by assumption
         rw [← hs])
      | (rw [List.take_of_length_le (by omega)] at hs
         rw [← hs])
    clear hs
    refine (newReader_any s _).mono ?_
    rintro e w2 ⟨g, rfl, hg, hr2, hb2⟩
    go_wp2_with fail
    go_loopg [7] (len1 + 1) (fun m v7 wr => ASK w g w2.heap.size len1 m v7 wr)
    case atStart =>
      exact ⟨0, s, false, by omega, rfl, q1, hr2.below ((Below.refl _ _).alloc (Nat.le_refl _) _), At.new _ _ _, hb2.alloc hb2.size _⟩
    case round =>
      obtain ⟨i, l, lost, hm, rfl, hl, hr, hrr, hb⟩ := hrel
      clear hr2 q1
      have HM := hid hm
      clear hm
      by_cases hlt : i < len1
      · by_cases h80 : i < 80
        · obtain ⟨b, off, z, rfl, hbl, hc, hwz, hzz⟩ := isRow_at w1 hlt
          clear hzz
          have hz := bounds_u8 hwz
          have hc1 : wr.cell? ⟨b, off + i, none⟩ = some (.int .u8 z) := by rw [hb.cell (p := ⟨b, off + i, none⟩) hbl]; exact hc
          by_cases hp : z % 2 = 0
          · have hpb : (z % 2 == 0) = true := by simp [hp]
            clear hp hc w1
            go_wp2_with fail
            refine (num_any g l lost _ hr (by omega)).mono ?_
            rintro e w3 ⟨rfl, hr3, ho3⟩
            have hrr3 := hrr.only hr ho3
            go_wp2_with fail
            refine (refNum_any _ l lost _ hrr3 (by omega)).mono ?_
            rintro e w4 ⟨rfl, hrr4, ho4⟩
            have hr4 := hr3.onlyRef hrr3 ho4
            go_wp2_with fail
            refine (ok_any g _ _ _ hr4).mono ?_
            rintro e w5 ⟨rfl, rfl⟩
            go_wp2_with fail
            refine (refOk_any _ _ _ _ hrr4).mono ?_
            rintro e w5 ⟨rfl, rfl⟩
            go_wp2_with fail
            refine (end_any g _ _ _ hr4).mono ?_
            rintro e w5 ⟨rfl, rfl⟩
            go_wp2_with fail
            refine (refEnd_any _ _ _ _ hrr4).mono ?_
            rintro e w5 ⟨rfl, rfl⟩
            go_wp2_with fail
            go_roundg (gk - 1)
            case measure => go_light; have := HM.out; omega
            case rel =>
              go_light
              have := HM.out
              have hle := numRest_le l
              have s2 := hb2.size
              have s3 := hb.size
              have s4 := ho3.size
              exact ⟨i + 1, _, _, by omega, int_cast (by omega), by omega, hr4, hrr4, (hb.trans (ho3.below hg s3)).trans (ho4.below s2 (by omega))⟩
          · have hpb : (z % 2 == 0) = false := by simp [hp]
            clear hp hc w1
            go_wp2_with fail
            refine (text_any g l lost _ hr (by omega)).mono ?_
            rintro e w3 ⟨rfl, hr3, ho3⟩
            have hrr3 := hrr.only hr ho3
            go_wp2_with fail
            refine (refText_any _ l lost _ hrr3 (by omega)).mono ?_
            rintro e w4 ⟨rfl, hrr4, ho4⟩
            have hr4 := hr3.onlyRef hrr3 ho4
            go_wp2_with fail
            refine (ok_any g _ _ _ hr4).mono ?_
            rintro e w5 ⟨rfl, rfl⟩
            go_wp2_with fail
            refine (refOk_any _ _ _ _ hrr4).mono ?_
            rintro e w5 ⟨rfl, rfl⟩
            go_wp2_with fail
            refine (end_any g _ _ _ hr4).mono ?_
            rintro e w5 ⟨rfl, rfl⟩
            go_wp2_with fail
            refine (refEnd_any _ _ _ _ hrr4).mono ?_
            rintro e w5 ⟨rfl, rfl⟩
            go_wp2_with fail
            go_roundg (gk - 1)
            case measure => go_light; have := HM.out; omega
            case rel =>
              go_light
              have := HM.out
              have hle := txtRest_le l
              have s2 := hb2.size
              have s3 := hb.size
              have s4 := ho3.size
              exact ⟨i + 1, _, _, by omega, int_cast (by omega), by omega, hr4, hrr4, (hb.trans (ho3.below hg s3)).trans (ho4.below s2 (by omega))⟩
        · go_wp2_with (go_at_call 13; refine (works_any _).mono ?_; rintro e w3 ⟨rfl, hb3⟩)
          go_ret
          exact ⟨rfl, hb.trans (hb3.mono hb.size)⟩
      · go_wp2_with (go_at_call 13; refine (works_any _).mono ?_; rintro e w3 ⟨rfl, hb3⟩)
        go_ret
        exact ⟨rfl, hb.trans (hb3.mono hb.size)⟩
end Go.Proofs.Ytefgoaokndbbhaa
