/-
  The walk of the program's Hash.
-/
import Derived.Test.YthacopmahjcmaaaN1
import Derived.Test.YthacopmahjcmaaaShelf
import Derived.Test.YthacopmahjcmaaaPlainN
namespace Go.Proofs.Ythacopmahjcmaaa
open Go.RowKit
set_option linter.unusedVariables false

theorem or_low (x : Nat) (b : UInt8) (hx : x < 4096) : bits .or .u64 ((x : Int) * 256) (b.toNat : Int) = ((x * 256 + b.toNat : Nat) : Int) := by
  have hb := b.toNat_lt
  have h := u64_or_nat (x * 256) b.toNat (by omega) (by omega)
  have e : ((x * 256 : Nat) : Int) = (x : Int) * 256 := by simp
  rw [e] at h
  rw [h, Nat.mul_comm x 256, show (256 : Nat) = 2 ^ 8 from rfl, ← Nat.two_pow_add_eq_or_of_lt (by omega : b.toNat < 2 ^ 8)]
theorem and31 (x : Nat) (hx : x < 18446744073709551616) : bits .and .u64 (x : Int) 31 = ((x % 32 : Nat) : Int) := by
  have h := u64_and_nat x 31 hx (by omega)
  rw [show ((31 : Nat) : Int) = 31 from rfl] at h
  rw [h, show (31 : Nat) = 2 ^ 5 - 1 from rfl, Nat.and_two_pow_sub_one_eq_mod]
theorem and_low (x t : Nat) (hx : x < 4096) (ht : t ≤ 4) : bits .and .u64 (x : Int) (IntKind.u64.wrap (IntKind.u64.wrap (2 ^ t) - 1)) = ((x % 2 ^ t : Nat) : Int) := by
  have e : IntKind.u64.wrap (IntKind.u64.wrap (2 ^ t) - 1) = ((2 ^ t - 1 : Nat) : Int) := by
    match t, ht with
    | 0, _ => rfl
    | 1, _ => rfl
    | 2, _ => rfl
    | 3, _ => rfl
    | 4, _ => rfl
  have hp : 2 ^ t ≤ 2 ^ 4 := Nat.pow_le_pow_right (by decide) ht
  rw [e, u64_and_nat x (2 ^ t - 1) (by omega) (by omega), Nat.and_two_pow_sub_one_eq_mod]

/-- The builder, b's block, holds these bytes. -/
def Bld (w : World) (B b : Nat) (l : List UInt8) : Prop := Lib.IsBuilder 60 5 B b (bv l) w
theorem byteCells_bv (l : List UInt8) : Lib.byteCells l = bv l := by simp [Lib.byteCells, bv]

set_option maxRecDepth 100000 in
set_option maxHeartbeats 2000000 in
theorem hash_any (l : List UInt8) (hl : l.length ≤ 1000000) (w : World) :
    Calls Try.prog 17 #[.string ⟨l.toArray⟩] w fun e w' => e = .returned (.string ⟨(hashL l).toArray⟩) ∧ Below w.heap.size w w' := by
  go_enter Try.func17, Try.ntmps17
  go_wp2_with fail
  refine (sum_any l hl _).mono ?_
  rintro e w1 ⟨rfl, hB1⟩
  have hsl := sumL_len l
  have hhl : hashOf (sumL l) = hashL l := rfl
  generalize sumL l = sq at hsl hhl ⊢
  have h32 : (sq.length : Int) = 32 := by omega
  have hmin : min (32 : Int) 20 = 20 := rfl
  have HSL := hid hsl
  have HHL := hid hhl
  clear hsl hhl
  go_wp2_with fail
  clear h32 hmin
  have hbl : Bld (w1.alloc (.cells #[.pointer none, .slice none 0 0] 60)) w1.heap.size w1.heap.size [] := .inl ⟨Nat.le_refl _, _, heap_alloc_new w1 _, World.ownsRow_nil _ _ _ _, by simp [Value.ownBlock]⟩
  have hB2 : Below w.heap.size w (w1.alloc (.cells #[.pointer none, .slice none 0 0] 60)) := hB1.alloc hB1.size _
  have hw1 := hB1.size
  have hw2 : w1.heap.size ≤ (w1.alloc (.cells #[.pointer none, .slice none 0 0] 60)).heap.size := by simp
  obtain ⟨b, hb⟩ : ∃ b, b = w1.heap.size := ⟨_, rfl⟩
  rw [← hb] at hbl hw1 hw2 ⊢
  clear hb hB1
  go_loopg [5, 6, 13] 20 (fun m v5 v6 v13 wx => ∃ i : Nat, m + i = 20 ∧ v13 = .int .i64 i ∧ v5 = .int .u64 ((numL (sq.take i) % 2 ^ (8 * i % 5) : Nat) : Int) ∧ v6 = .int .i64 ((8 * i % 5 : Nat) : Int) ∧ Bld wx b b (ltrs (numL (sq.take 20)) (8 * i / 5)) ∧ Below w.heap.size w wx ∧ b ≤ wx.heap.size)
  case atStart => exact ⟨0, rfl, rfl, rfl, rfl, hbl, hB2, hw2⟩
  case round =>
    clear hbl hB2 hw2
    obtain ⟨i, hm, rfl, rfl, rfl, hbl, hB, hbw⟩ := hrel
    have HM := hid hm
    by_cases hlt : i < 20
    · have hsl := HSL.out
      have hix := fun W => run_index_at (P := Try.prog) 9 Try.underlying9 sq i (by omega) (sq[i]'(by omega)) (by simp [List.getD, List.getElem?_eq_getElem (show i < sq.length by omega)]) (i : Int) rfl .i64 W
      have hnx : numL (sq.take (i + 1)) = numL (sq.take i) * 256 + (sq[i]'(by omega)).toNat := by rw [List.take_succ_eq_append_getElem (by omega), numL_snoc]
      generalize sq[i]'(by omega) = c at hix hnx
      have hr4 : 8 * i % 5 ≤ 4 := by omega
      have hst := have_step (numL (sq.take i)) (8 * i % 5) c hr4
      rw [← hnx] at hst
      have hxl : numL (sq.take i) % 2 ^ (8 * i % 5) < 4096 := by
        have := Nat.mod_lt (numL (sq.take i)) (Nat.two_pow_pos (8 * i % 5))
        have : 2 ^ (8 * i % 5) ≤ 2 ^ 4 := Nat.pow_le_pow_right (by decide) hr4
        omega
      have hor := or_low _ c hxl
      rw [hst] at hor
      have hX : numL (sq.take (i + 1)) % 2 ^ (8 * i % 5 + 8) < 4096 := by
        have := Nat.mod_lt (numL (sq.take (i + 1))) (Nat.two_pow_pos (8 * i % 5 + 8))
        have : 2 ^ (8 * i % 5 + 8) ≤ 2 ^ 12 := Nat.pow_le_pow_right (by decide) (by omega)
        omega
      have hdig : ∀ q t, 5 * (q + 1) + t = 8 * (i + 1) → t ≤ 8 * i % 5 + 3 → numL (sq.take (i + 1)) % 2 ^ (8 * i % 5 + 8) / 2 ^ t % 32 = digN (numL (sq.take 20)) q := fun q t h1 h2 => by
        rw [mod_div_mod _ _ _ (by omega)]
        have := digN_part (sq.take 20) (by simp; omega) (i + 1) q t (by omega) h1
        rw [List.take_take, show min (i + 1) 20 = i + 1 by omega] at this
        exact this
      have hlow : ∀ t, t ≤ 8 * i % 5 + 8 → numL (sq.take (i + 1)) % 2 ^ (8 * i % 5 + 8) % 2 ^ t = numL (sq.take (i + 1)) % 2 ^ t := fun t ht => mod_mod_pow _ _ _ ht
      generalize numL (sq.take (i + 1)) % 2 ^ (8 * i % 5 + 8) = X at *
      generalize numL (sq.take i) % 2 ^ (8 * i % 5) = hv at *
      generalize hr : 8 * i % 5 = r at *
      have HR := hid hr
      have hcl := c.toNat_lt
      have hwc : IntKind.u64.wrap (c.toNat : Int) = (c.toNat : Int) := by rw [IntKind.wrap_u64]; omega
      have HDIG := hid hdig
      have HLOW := hid hlow
      have i20 : (i : Int) < 20 := by omega
      have i0 : (0 : Int) ≤ (i : Int) := by omega
      have hb8 : (hv : Int) * 256 < 2000000 := by omega
      clear hsl hnx hst hdig hlow hr hm
      go_wp2_with fail
      clear hor hwc hix hb8 hxl
      go_loopg [6] (r + 8) (fun m v6 wx => ∃ q : Nat, 5 * q + m = 8 * (i + 1) ∧ m ≤ r + 8 ∧ v6 = .int .i64 m ∧ Bld wx b b (ltrs (numL (sq.take 20)) q) ∧ Below w.heap.size w wx ∧ b ≤ wx.heap.size)
      case atStart => exact ⟨8 * i / 5, by have := HR.out; omega, Nat.le_refl _, int_cast (by omega), hbl, hB, hbw⟩
      case round =>
        clear hbl hB hbw
        obtain ⟨q, hq, hmr, rfl, hbl, hB, hbw⟩ := hrel
        have HQ := hid hq
        by_cases h5 : 5 ≤ gk
        · have hd := HDIG.out q (gk - 5) (by omega) (by omega)
          have hx2 : X / 2 ^ (gk - 5) < 18446744073709551616 := Nat.lt_of_le_of_lt (Nat.div_le_self _ _) (by omega)
          have ha := and31 _ hx2
          rw [hd] at ha
          have hdl : digN (numL (sq.take 20)) q < 32 := Nat.mod_lt _ (by decide)
          have hix := fun W => run_index_at (P := Try.prog) 9 Try.underlying9 LT (digN (numL (sq.take 20)) q) (by rw [LT_len]; exact hdl) _ rfl ((digN (numL (sq.take 20)) q : Nat) : Int) rfl .u64 W
          have hlt2 : LT.getD (digN (numL (sq.take 20)) q) 0 = ltr (numL (sq.take 20)) q := rfl
          rw [hlt2] at hix
          have hsu := ltrs_succ (numL (sq.take 20)) q
          have hll := ltrs_len (numL (sq.take 20)) q
          generalize ltr (numL (sq.take 20)) q = y at hix hsu
          generalize digN (numL (sq.take 20)) q = dg at ha hix
          have hdv : (X : Int) / 2 ^ (gk - 5) = ((X / 2 ^ (gk - 5) : Nat) : Int) := by rw [Int.natCast_ediv]; simp
          have hwr := fun W (h : Bld W b b (ltrs (numL (sq.take 20)) q)) (hw : b ≤ W.heap.size) => writeByte_any b b (bv (ltrs (numL (sq.take 20)) q)) (y.toNat : Int) W h (by rw [bv_length, hll]; omega) hw
          have HW := hid hwr
          have HSU := hid hsu
          have g5 : (5 : Int) ≤ (gk : Int) := by omega
          have g0 : (0 : Int) ≤ (gk : Int) - 5 := by omega
          have gn : ((gk : Int) - 5).toNat = gk - 5 := by omega
          have gd : decide ((5 : Int) ≤ (gk : Int)) = true := by simp; omega
          simp only [LT] at hix
          rw [← hdv] at ha
          clear hwr hsu hd hx2 hq hdv hll hlt2
          go_wp2_with fail
          refine (HW.out _ hbl hbw).mono ?_
          rintro e w2 ⟨rfl, hb2, hB2⟩
          clear hix ha
          go_wp2_with fail
          go_roundg (gk - 5)
          case measure => go_light; omega
          case rel =>
            go_light
            have := HQ.out
            have := hB2.size
            exact ⟨q + 1, by omega, by omega, int_cast (by omega), by rw [HSU.out, Bld, bv_append]; exact .inr hb2, hB.trans (hB2.mono hw1), by omega⟩
        · have hlo := HLOW.out gk (by omega)
          have hal := and_low X gk hX (by omega)
          rw [hlo] at hal
          have hr2 : 8 * (i + 1) % 5 = gk := by omega
          have hq2 : 8 * (i + 1) / 5 = q := by omega
          have HR2 := hid (And.intro hr2 hq2)
          generalize hY : numL (sq.take (i + 1)) % 2 ^ gk = Y at hal
          have HY := hid hY
          have gd : decide ((5 : Int) ≤ (gk : Int)) = false := by simp; omega
          have g0 : (0 : Int) ≤ (gk : Int) := by omega
          clear hlo hr2 hq2 hY hq
          go_wp2_with fail
          go_roundg (20 - (i + 1))
          case measure => go_light; have := HM.out; omega
          case rel =>
            go_light
            obtain ⟨h1, h2⟩ := HR2.out
            exact ⟨i + 1, by omega, int_cast (by omega), by rw [h1, HY.out], by rw [h1], by rw [h2]; exact hbl, hB, hbw⟩
    · obtain rfl : i = 20 := by omega
      rw [show ((20 : Nat) : Int) = 20 from rfl]
      rw [show 8 * 20 / 5 = 32 from rfl, show ltrs (numL (sq.take 20)) 32 = hashOf sq from rfl, HHL.out] at hbl
      clear hm HM hlt
      go_wp2_with fail
      refine (Try.Builder_String_any b b (hashL l) _ (by rw [byteCells_bv]; exact hbl) hbw).mono ?_
      rintro e w3 ⟨rfl, hB3⟩
      go_wp2_with fail
      go_ret
      exact ⟨rfl, hB.trans (hB3.mono hw1)⟩
end Go.Proofs.Ythacopmahjcmaaa
