/-
  The walk of the reference's Hash.
-/
import Derived.Test.YthacopmahjcmaaaN2
namespace Go.Proofs.Ythacopmahjcmaaa
open Go.RowKit
set_option linter.unusedVariables false

/-- Bit p of bytes in a row. -/
def bitN (bs : List UInt8) (p : Nat) : Nat := (bs.getD (p / 8) 0).toNat / 2 ^ (7 - p % 8) % 2
theorem bitN_le (bs : List UInt8) (p : Nat) : bitN bs p ≤ 1 := by unfold bitN; omega
theorem low_bit (m s : Nat) (b : UInt8) (hs : s ≤ 7) : (m * 256 + b.toNat) / 2 ^ s % 2 = b.toNat / 2 ^ s % 2 := by
  match s, hs with
  | 0, _ => simp only [Nat.reducePow]; omega
  | 1, _ => simp only [Nat.reducePow]; omega
  | 2, _ => simp only [Nat.reducePow]; omega
  | 3, _ => simp only [Nat.reducePow]; omega
  | 4, _ => simp only [Nat.reducePow]; omega
  | 5, _ => simp only [Nat.reducePow]; omega
  | 6, _ => simp only [Nat.reducePow]; omega
  | 7, _ => simp only [Nat.reducePow]; omega
theorem bitN_num (bs : List UInt8) (hb : bs.length = 32) (p : Nat) (hp : p < 160) : bitN bs p = numL (bs.take 20) / 2 ^ (159 - p) % 2 := by
  have hi : p / 8 < bs.length := by omega
  have h1 := numL_take (bs.take 20) (p / 8 + 1) (by simp; omega)
  rw [List.take_take, show min (p / 8 + 1) 20 = p / 8 + 1 by omega, List.take_succ_eq_append_getElem hi, numL_snoc, List.length_take, show min 20 bs.length = 20 by omega] at h1
  rw [show 159 - p = 8 * (20 - (p / 8 + 1)) + (7 - p % 8) by omega, Nat.pow_add, ← Nat.div_div_eq_div_mul, ← h1, low_bit _ _ _ (by omega), bitN]
  simp [List.getD, List.getElem?_eq_getElem hi]
theorem acc_step (N e k : Nat) (hk : k < 5) : N / 2 ^ e % 2 ^ (k + 1) = 2 * (N / 2 ^ (e + 1) % 2 ^ k) + N / 2 ^ e % 2 := by
  rw [Nat.pow_succ 2 e, ← Nat.div_div_eq_div_mul]
  generalize N / 2 ^ e = M
  match k, hk with
  | 0, _ => simp only [Nat.reducePow, Nat.reduceAdd]; omega
  | 1, _ => simp only [Nat.reducePow, Nat.reduceAdd]; omega
  | 2, _ => simp only [Nat.reducePow, Nat.reduceAdd]; omega
  | 3, _ => simp only [Nat.reducePow, Nat.reduceAdd]; omega
  | 4, _ => simp only [Nat.reducePow, Nat.reduceAdd]; omega
theorem and1 (x : Nat) (hx : x < 256) : bits .and .i64 (x : Int) 1 = ((x % 2 : Nat) : Int) := by
  have h1 : (BitVec.ofInt 64 (x : Int)).toNat = x := by rw [BitVec.ofInt_natCast, BitVec.toNat_ofNat]; exact Nat.mod_eq_of_lt (by omega)
  show IntKind.i64.wrap ((BitVec.ofInt 64 (x : Int) &&& BitVec.ofInt 64 1).toNat : Int) = _
  rw [BitVec.toNat_and, h1, show (BitVec.ofInt 64 1).toNat = 2 ^ 1 - 1 from rfl, Nat.and_two_pow_sub_one_eq_mod, IntKind.wrap_i64]
  omega

set_option maxHeartbeats 400000 in
theorem bit_any (bs : List UInt8) (hb : bs.length = 32) (p : Nat) (hp : p < 160) (w : World) :
    Calls Try.prog 38 #[.string ⟨bs.toArray⟩, .int .i64 p] w fun e w' => e = .returned (.int .i64 (bitN bs p)) ∧ w = w' := by
  have hix := fun W => run_index_at (P := Try.prog) 9 Try.underlying9 bs (p / 8) (by omega) _ rfl ((p : Int) / 8) (by omega) .i64 W
  have hbl := (bs.getD (p / 8) 0).toNat_lt
  have hdef : bitN bs p = (bs.getD (p / 8) 0).toNat / 2 ^ (7 - p % 8) % 2 := rfl
  generalize bs.getD (p / 8) 0 = c at hix hbl hdef
  have hx : c.toNat / 2 ^ (7 - p % 8) < 256 := Nat.lt_of_le_of_lt (Nat.div_le_self _ _) (by omega)
  have ha := and1 _ hx
  rw [← hdef] at ha
  have hdv : ((c.toNat / 2 ^ (7 - p % 8) : Nat) : Int) = (c.toNat : Int) / 2 ^ (7 - p % 8) := by rw [Int.natCast_ediv]; simp
  rw [hdv] at ha
  have h0 : (0 : Int) ≤ (p : Int) := by omega
  have h1 : (p : Int) < 160 := by omega
  have h2 : (0 : Int) ≤ 7 - (p : Int) % 8 := by omega
  have h3 : (7 - (p : Int) % 8).toNat = 7 - p % 8 := by omega
  have HD := hid hdef
  clear hdef hx hdv hb
  go_enter Try.func38, Try.ntmps38
  go_wp2_with fail
  go_ret
  exact ⟨rfl, rfl⟩

theorem letters_any (w : World) : Calls Try.prog 39 #[] w fun e w' => e = .returned (.string ⟨LT.toArray⟩) ∧ w = w' := by
  go_enter Try.func39, Try.ntmps39
  go_wp2
  go_ret
  exact ⟨rfl, rfl⟩
theorem take_one_drop (l : List UInt8) (n : Nat) (h : n < l.length) : List.take 1 (List.drop n l) = [l.getD n 0] := by
  rw [List.drop_eq_getElem_cons h, List.take_succ_cons, List.take_zero]
  simp [List.getD, List.getElem?_eq_getElem h]

set_option maxRecDepth 100000 in
set_option maxHeartbeats 2000000 in
theorem refHash_any (l : List UInt8) (hl : l.length ≤ 1000000) (w : World) :
    Calls Try.prog 18 #[.string ⟨l.toArray⟩] w fun e w' => e = .returned (.string ⟨(hashL l).toArray⟩) ∧ Below w.heap.size w w' := by
  go_enter Try.func18, Try.ntmps18
  go_wp2_with fail
  refine (refSum_any l hl _).mono ?_
  rintro e w1 ⟨rfl, hB1⟩
  have hsl := sumL_len l
  have hhl : hashOf (sumL l) = hashL l := rfl
  generalize sumL l = sq at hsl hhl ⊢
  have HSL := hid hsl
  have HHL := hid hhl
  have hbt := fun p hp W => bit_any sq hsl p hp W
  have hbn := bitN_num sq hsl
  obtain ⟨N, hN⟩ : ∃ N, N = numL (sq.take 20) := ⟨_, rfl⟩
  rw [← hN] at hbn
  have HN := hid hN
  have HBT := hid hbt
  have HBN := hid hbn
  clear hsl hhl hbt hbn hN
  go_wp2_with fail
  go_loopg [4, 5] 32 (fun m v4 v5 wx => ∃ i : Nat, m + i = 32 ∧ v5 = .int .i64 i ∧ v4 = .string ⟨(ltrs N i).toArray⟩ ∧ w1 = wx)
  case atStart => exact ⟨0, rfl, rfl, rfl, rfl⟩
  case round =>
    obtain ⟨i, hm, rfl, rfl, rfl⟩ := hrel
    have HM := hid hm
    by_cases hlt : i < 32
    · have i32 : (i : Int) < 32 := by omega
      have hll := ltrs_len N i
      clear hm
      go_wp2_with fail
      go_loopg [6, 7] 5 (fun m v6 v7 wx => ∃ k : Nat, m + k = 5 ∧ v7 = .int .i64 k ∧ v6 = .int .i64 ((N / 2 ^ (160 - 5 * i - k) % 2 ^ k : Nat) : Int) ∧ w1 = wx)
      case atStart => exact ⟨0, rfl, rfl, int_cast (by simp), rfl⟩
      case round =>
        obtain ⟨k, hk, rfl, rfl, rfl⟩ := hrel
        have HK := hid hk
        have hbd : N / 2 ^ (160 - 5 * i - k) % 2 ^ k < 64 := by
          have := Nat.mod_lt (N / 2 ^ (160 - 5 * i - k)) (Nat.two_pow_pos k)
          have : 2 ^ k ≤ 2 ^ 5 := Nat.pow_le_pow_right (by decide) (by omega)
          omega
        by_cases hk5 : k < 5
        · have hst := acc_step N (160 - 5 * i - (k + 1)) k hk5
          rw [show 160 - 5 * i - (k + 1) + 1 = 160 - 5 * i - k by omega] at hst
          have hbt := fun W => HBT.out (5 * i + k) (by omega) W
          have hbe := HBN.out (5 * i + k) (by omega)
          rw [show 159 - (5 * i + k) = 160 - 5 * i - (k + 1) by omega] at hbe
          rw [← hbe] at hst
          have hbl := bitN_le sq (5 * i + k)
          generalize N / 2 ^ (160 - 5 * i - k) % 2 ^ k = x at *
          generalize bitN sq (5 * i + k) = y at *
          have HST := hid hst
          have hcast : 5 * (i : Int) + (k : Int) = ((5 * i + k : Nat) : Int) := by omega
          have HC := hid hcast
          have HB := hid hbt
          have k5 : (k : Int) < 5 := by omega
          clear hst hbt hbe hk hcast
          go_wp2_with fail
          rw [HC.out]
          refine (HB.out _).mono ?_
          rintro e w2 ⟨rfl, rfl⟩
          rw [← HC.out]
          go_wp2_with fail
          go_roundg (gk - 1)
          case measure => go_light; have := HK.out; omega
          case rel =>
            go_light
            have := HK.out
            exact ⟨k + 1, by omega, int_cast (by omega), int_cast (by rw [HST.out]; omega), rfl⟩
        · obtain rfl : k = 5 := by omega
          have hdg : N / 2 ^ (160 - 5 * i - 5) % 2 ^ 5 = digN N i := by rw [digN, show 160 - 5 * i - 5 = 155 - 5 * i by omega]
          rw [hdg]
          have hdl : digN N i < 32 := Nat.mod_lt _ (by decide)
          have hsu := ltrs_succ N i
          have hto := take_one_drop LT (digN N i) (by rw [LT_len]; exact hdl)
          rw [show LT.getD (digN N i) 0 = ltr N i from rfl] at hto
          generalize digN N i = dg at *
          generalize ltr N i = y at *
          have HSU := hid hsu
          have HTO := hid hto
          have hLT := LT_len
          have hd32 : (dg : Int) < 32 := by omega
          have hd33 : (dg : Int) + 1 ≤ (LT.length : Int) := by omega
          have hd34 : (dg : Int) ≤ (dg : Int) + 1 := by omega
          clear hk HK hbd hdg hsu hto hk5
          go_wp2_with fail
          refine (letters_any _).mono ?_
          rintro e w2 ⟨rfl, rfl⟩
          go_wp2_with fail
          go_roundg (31 - i)
          case measure => go_light; have := HM.out; omega
          case rel =>
            go_light
            have := HM.out
            exact ⟨i + 1, by omega, int_cast (by omega), by rw [HTO.out, ← HSU.out], rfl⟩
    · obtain rfl : i = 32 := by omega
      rw [show ((32 : Nat) : Int) = 32 from rfl]
      have hfin : ltrs N 32 = hashL l := by rw [HN.out, ← HHL.out, hashOf]
      rw [hfin]
      clear hfin hm HM hlt
      go_wp2_with fail
      go_ret
      exact ⟨rfl, hB1⟩
end Go.Proofs.Ythacopmahjcmaaa
