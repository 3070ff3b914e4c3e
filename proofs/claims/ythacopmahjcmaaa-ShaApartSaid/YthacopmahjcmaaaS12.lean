/-
  The walks of hex and works; the sums that are asked there.
-/
import Derived.Test.YthacopmahjcmaaaS11
import Derived.Test.YthacopmahjcmaaaFast
namespace Go.Proofs.Ythacopmahjcmaaa
open Go.RowKit
set_option linter.unusedVariables false

def DG : List UInt8 := [48, 49, 50, 51, 52, 53, 54, 55, 56, 57, 97, 98, 99, 100, 101, 102]
def hexB (b : UInt8) : List UInt8 := [DG.getD (b.toNat / 16) 0, DG.getD (b.toNat % 16) 0]
def hexL (l : List UInt8) : List UInt8 := l.flatMap hexB
theorem hexL_len (l : List UInt8) : (hexL l).length = 2 * l.length := by
  induction l with
  | nil => rfl
  | cons a l ih => simp [hexL, hexB] at ih ⊢; omega
theorem hexL_snoc (l : List UInt8) (i : Nat) (h : i < l.length) : hexL (l.take (i + 1)) = hexL (l.take i) ++ hexB l[i] := by
  rw [List.take_succ_eq_append_getElem h, hexL, List.flatMap_append]
  simp [hexL]
theorem and15 (b : UInt8) : bits .and .u8 (b.toNat : Int) 15 = ((b.toNat % 16 : Nat) : Int) := by
  have h := u8_and_nat b.toNat 15 (by have := b.toNat_lt; omega) (by omega)
  rw [show ((15 : Nat) : Int) = 15 from rfl] at h
  rw [h, show (15 : Nat) = 2 ^ 4 - 1 from rfl, Nat.and_two_pow_sub_one_eq_mod]

set_option maxRecDepth 100000 in
set_option maxHeartbeats 1000000 in
theorem hex_any (l : List UInt8) (hl : l.length = 32) (w : World) :
    Calls Try.prog 16 #[.string ⟨l.toArray⟩] w fun e w' => e = .returned (.string ⟨(hexL l).toArray⟩) ∧ Below w.heap.size w w' := by
  obtain ⟨i0, hi, hz0, hz1, hz2⟩ := info_parts info5
  have hmk : ∀ W : World, (Instr.makeSlice 27 (.int .i64 0) (.int .i64 64)).run Try.prog W = .ok (.slice (some ⟨W.heap.size, 0, none⟩) 0 64) (W.alloc (.cells (List.replicate 64 (Value.int .u8 0)).toArray 5)) := fun _ => by kernel_rfl
  have hl32 : (l.length : Int) = 32 := by omega
  go_enter Try.func16, Try.ntmps16
  go_wp2_with fail
  have hBw := At.new w 5 (List.replicate 64 (Value.int .u8 0)).toArray
  clear hmk hl32
  go_loopg [4, 5] 32 (fun m v4 v5 wx => ∃ i : Nat, m + i = 32 ∧ v5 = .int .i64 i ∧ wx.ownsRow w.heap.size 5 1 v4 (2 * i) (bv (hexL (l.take i))) ∧ Below w.heap.size w wx)
  case atStart =>
    exact ⟨0, rfl, rfl, ⟨rfl, .inr ⟨w.heap.size, 64, _, rfl, Nat.le_refl _, hBw, by omega, by unfold maxLen; omega, by simp, by simp [hexL, bv]⟩⟩, (Below.refl _ _).alloc (Nat.le_refl _) _⟩
  case round =>
    clear hBw
    obtain ⟨i, hi', rfl, hown, hC⟩ := hrel
    have HI := hid hi'
    have HL := hid hl
    by_cases hil : i < 32
    · have hsn := hexL_snoc l i (by omega)
      have hix := fun W => run_index_at (P := Try.prog) 9 Try.underlying9 l i (by omega) (l[i]'(by omega)) (by simp [List.getD, List.getElem?_eq_getElem (show i < l.length by omega)]) (i : Int) rfl .i64 W
      generalize l[i]'(by omega) = b at hsn hix
      have hbl := b.toNat_lt
      have h4 := fun W => run_index_at (P := Try.prog) 9 Try.underlying9 DG (b.toNat / 16) (by simp [DG]; omega) _ rfl ((b.toNat : Int) / 16) (by omega) .u8 W
      have h15 := fun W => run_index_at (P := Try.prog) 9 Try.underlying9 DG (b.toNat % 16) (by simp [DG]; omega) _ rfl ((b.toNat % 16 : Nat) : Int) rfl .u8 W
      have ha := and15 b
      rw [hexB] at hsn
      generalize DG.getD (b.toNat / 16) 0 = y0 at hsn h4
      generalize DG.getD (b.toNat % 16) 0 = y1 at hsn h15
      generalize b.toNat % 16 = q at ha h15
      have HSN := hid hsn
      have hform : ∃ A c, u4 = .slice A (2 * i) c := by
        rcases hown.2 with ⟨h1, h2⟩ | ⟨g, cap, cur, h1, _⟩
        · exact ⟨none, 0, by rw [h1, h2]⟩
        · exact ⟨_, _, h1⟩
      obtain ⟨A, c, rfl⟩ := hform
      have hws := hC.size
      have hnw := World.news_of_block (cs := (bv [y0, y1]).toArray) (t := 5) (fr := (0, 0)) (heap_alloc_new wr _)
      have HNW := hid hnw
      have hil2 : (i : Int) < (l.length : Int) := by omega
      simp only [DG] at h4 h15
      clear hsn hi' hnw hl
      go_wp2_with fail
      go_region_held3 (fun w' => True) (trivial)
        ((refine step_append_lies _ (by rfl) _ _ _ (by rfl) w.heap.size 5 i0 _ 1 1 Try.underlying27 hi hz0 hz1 hz2 rfl (by omega) (.slice A (2 * i) c) (2 * i) _ (by rfl) ((hown.alloc _).drew) ⟨wr.heap.size, 0, none⟩ 2 2 (bv [y0, y1]) (by rfl) (by rfl) HNW.out (bv_one _) (by omega) (by unfold maxLen; omega) (by omega) (by simp; omega) (wr.heap.size + 1) (by simp) ?_; intro gg cap2 w1 hown1 hgrow hat hlt))
      all_goals
        rename_i hHeld
        clear hHeld
        go_wp2_with fail
        go_roundg (gk - 1)
        case measure => go_light; have := HI.out; omega
        case rel =>
          go_light
          have := HI.out
          refine ⟨i + 1, by omega, int_cast (by omega), ?_, ?_⟩
          · rw [HSN.out, bv_append, show 2 * (i + 1) = 2 * i + 2 by omega]
            exact hown1
          · exact (hC.alloc hC.size _).drew.grown hgrow (by have := hC.size; simp; omega) (fun k hk => by have := (hown.lt k hk).1; omega)
    · obtain rfl : i = 32 := by omega
      rw [List.take_of_length_le (by omega)] at hown
      have hhl : (hexL l).length = 64 := by rw [hexL_len, hl]
      obtain ⟨A, c, rfl, hrd⟩ := rd_of_own hown (wr.heap.size + 1) (by omega)
      have hl2 : ¬ ((32 : Nat) : Int) < (l.length : Int) := by omega
      rw [show ((32 : Nat) : Int) = 32 from rfl] at hl2 ⊢
      clear hi' HI hil hown hl HL
      go_wp2_with (refine wpList_string_of rfl (.tmp 31) 27 9 5 rfl Try.underlying27 Try.underlying5 Try.underlying9 (wr.heap.size + 1) _ _ c rfl (hexL l) hrd ?_)
      go_ret
      exact ⟨rfl, hC⟩

/-! ## Two sums -/
theorem one_block (l B : List UInt8) (K : Nat) (hp : padL l = B) (hB : B.length = 64) (hk : ∀ v : List UInt32, v.length = 8 → pk (blockF v B) = blkN' K (pk v)) : sumL l = outF (unpk (blkN' K (pk HL))) := by
  have h2 : blkN l = 1 := by rw [blkN, hp, hB]
  have h3 : blkAt B 0 = B := by rw [blkAt, Nat.mul_zero, List.drop_zero, List.take_of_length_le (by omega)]
  rw [sumL, hp, h2, show stepsF Hc B 1 = blockF Hc (blkAt B 0) from rfl, h3, ← Hc_lit, ← hk Hc Hc_len, unpk_pk _ (by rw [blockF_len, Hc_len])]
def sumNil : List UInt8 := [227, 176, 196, 66, 152, 252, 28, 20, 154, 251, 244, 200, 153, 111, 185, 36, 39, 174, 65, 228, 100, 155, 147, 76, 164, 149, 153, 27, 120, 82, 184, 85]
def sumAbc : List UInt8 := [186, 120, 22, 191, 143, 1, 207, 234, 65, 65, 64, 222, 93, 174, 34, 35, 176, 3, 97, 163, 150, 23, 122, 156, 180, 16, 255, 97, 242, 0, 21, 173]
set_option maxRecDepth 100000 in
theorem sum_nil : sumL [] = sumNil := by
  rw [one_block [] nilB nilK (by decide +kernel) (by decide +kernel) nil_block]
  decide +kernel
set_option maxRecDepth 100000 in
theorem sum_abc : sumL [97, 98, 99] = sumAbc := by
  rw [one_block [97, 98, 99] abcB abcK (by decide +kernel) (by decide +kernel) abc_block]
  decide +kernel
def hexNil : List UInt8 := [101, 51, 98, 48, 99, 52, 52, 50, 57, 56, 102, 99, 49, 99, 49, 52, 57, 97, 102, 98, 102, 52, 99, 56, 57, 57, 54, 102, 98, 57, 50, 52, 50, 55, 97, 101, 52, 49, 101, 52, 54, 52, 57, 98, 57, 51, 52, 99, 97, 52, 57, 53, 57, 57, 49, 98, 55, 56, 53, 50, 98, 56, 53, 53]
def hexAbc : List UInt8 := [98, 97, 55, 56, 49, 54, 98, 102, 56, 102, 48, 49, 99, 102, 101, 97, 52, 49, 52, 49, 52, 48, 100, 101, 53, 100, 97, 101, 50, 50, 50, 51, 98, 48, 48, 51, 54, 49, 97, 51, 57, 54, 49, 55, 55, 97, 57, 99, 98, 52, 49, 48, 102, 102, 54, 49, 102, 50, 48, 48, 49, 53, 97, 100]
theorem hex_nil : hexL (sumL []) = hexNil := by rw [sum_nil]; decide +kernel
theorem hex_abc : hexL (sumL [97, 98, 99]) = hexAbc := by rw [sum_abc]; decide +kernel

set_option maxRecDepth 100000 in
set_option maxHeartbeats 1000000 in
theorem works_any (w : World) : Calls Try.prog 15 #[] w fun e w' => e = .returned (.bool true) ∧ Below w.heap.size w w' := by
  have s0 := fun W => sum_any [] (by simp) W
  have s1 := fun W => sum_any [97, 98, 99] (by simp) W
  have x0 := fun W => hex_any (sumL []) (sumL_len _) W
  have x1 := fun W => hex_any (sumL [97, 98, 99]) (sumL_len _) W
  rw [hex_nil, hexNil] at x0
  rw [hex_abc, hexAbc] at x1
  generalize sumL [] = q0 at s0 x0
  generalize sumL [97, 98, 99] = q1 at s1 x1
  have S0 := hid s0
  have S1 := hid s1
  have X0 := hid x0
  have X1 := hid x1
  clear s0 s1 x0 x1
  go_enter Try.func15, Try.ntmps15
  go_wp2_with fail
  refine (S0.out _).mono ?_
  rintro e w1 ⟨rfl, hB1⟩
  go_wp2_with fail
  refine (X0.out _).mono ?_
  rintro e w2 ⟨rfl, hB2⟩
  have hb2 : Below w.heap.size w w2 := hB1.trans (hB2.mono hB1.size)
  go_wp2_with fail
  refine (S1.out _).mono ?_
  rintro e w3 ⟨rfl, hB3⟩
  have hb3 : Below w.heap.size w w3 := hb2.trans (hB3.mono hb2.size)
  go_wp2_with fail
  refine (X1.out _).mono ?_
  rintro e w4 ⟨rfl, hB4⟩
  have hb4 : Below w.heap.size w w4 := hb3.trans (hB4.mono hb3.size)
  go_wp2_with fail
  go_ret
  exact ⟨rfl, hb4⟩

end Go.Proofs.Ythacopmahjcmaaa
