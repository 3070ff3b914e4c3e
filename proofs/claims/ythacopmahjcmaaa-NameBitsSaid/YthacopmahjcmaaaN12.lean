/-
  The walk of NameBits.
-/
import Derived.Test.YthacopmahjcmaaaN7
import Derived.Test.YthacopmahjcmaaaPlainN2
import Derived.Deep.RegionHeld3
namespace Go.Proofs.Ythacopmahjcmaaa
open Go.RowKit Go.Maps
set_option linter.unusedVariables false

theorem and_mask (x t : Nat) (hx : x < 4096) (ht : t ≤ 4) : bits .and .i64 (x : Int) ((2 ^ t - 1 : Nat) : Int) = ((x % 2 ^ t : Nat) : Int) := by
  have hp : 2 ^ t ≤ 2 ^ 4 := Nat.pow_le_pow_right (by decide) ht
  have h1 : (BitVec.ofInt 64 (x : Int)).toNat = x := by rw [BitVec.ofInt_natCast, BitVec.toNat_ofNat]; exact Nat.mod_eq_of_lt (by omega)
  have h2 : (BitVec.ofInt 64 ((2 ^ t - 1 : Nat) : Int)).toNat = 2 ^ t - 1 := by rw [BitVec.ofInt_natCast, BitVec.toNat_ofNat]; exact Nat.mod_eq_of_lt (by omega)
  show IntKind.i64.wrap ((BitVec.ofInt 64 (x : Int) &&& BitVec.ofInt 64 ((2 ^ t - 1 : Nat) : Int)).toNat : Int) = _
  have hm := Nat.mod_le x (2 ^ t)
  rw [BitVec.toNat_and, h1, h2, Nat.and_two_pow_sub_one_eq_mod, IntKind.wrap_i64]
  omega
theorem one_string (bt : UInt8) (W : World) : (convert 27 9 (.slice (some ⟨W.heap.size, 0, none⟩) 1 1)).run Try.prog (W.alloc (.cells #[.int .u8 (bt.toNat : Int)] 5)) = .ok (.string ⟨[bt].toArray⟩) (W.alloc (.cells #[.int .u8 (bt.toNat : Int)] 5)) := by
  have hs : (W.alloc (.cells #[.int .u8 (bt.toNat : Int)] 5)).heap.size = W.heap.size + 1 := by simp
  refine run_string_of (P := Try.prog) _ 27 9 5 Try.underlying27 Try.underlying5 Try.underlying9 (W.heap.size + 1) _ 1 1 [bt] ?_
  refine Rd.of_cells (blk := W.heap.size) (xs := bv [bt]) (W.heap.size + 1) (by omega) (by rw [hs]; omega) fun j u hj => ?_
  refine cell_new4 W _ 5 j u ?_
  rw [← hj]
  simp [bv]
theorem LT_ne : ∀ a b : Fin 32, a.val < b.val → LT.getD a.val 0 ≠ LT.getD b.val 0 := by decide +kernel

set_option maxRecDepth 100000 in
set_option maxHeartbeats 1000000 in
theorem value_any (d : Nat) (hd : d < 32) (c : UInt8) (hc : c = LT.getD d 0) (w : World) :
    Calls Try.prog 26 #[.int .u8 c.toNat] w fun e w' => e = .returned (.int .i64 d) ∧ w = w' := by
  go_enter Try.func26, Try.ntmps26
  go_wp2_with fail
  rw [show (⟨#[48, 49, 50, 51, 52, 53, 54, 55, 56, 57, 97, 98, 99, 100, 102, 103, 104, 105, 106, 107, 108, 109, 110, 112, 113, 114, 115, 118, 119, 120, 121, 122]⟩ : ByteArray) = ⟨LT.toArray⟩ from rfl]
  have hLl := LT_len
  have hLn : ∀ k, k < d → LT.getD k 0 ≠ c := fun k h => by rw [hc]; exact LT_ne ⟨k, by omega⟩ ⟨d, hd⟩ h
  generalize LT = L at *
  have HLn := hid hLn
  have HC := hid hc
  clear hLn hc
  go_loopg [4] 32 (fun m i wr => ∃ k : Nat, m + k = 32 ∧ k ≤ d ∧ i = .int .i64 k ∧ w = wr)
  case atStart => exact ⟨0, rfl, Nat.zero_le _, rfl, rfl⟩
  case round =>
    obtain ⟨k, hk, hkd, rfl, rfl⟩ := hrel
    have HM := hid hk
    have hix := fun W => run_index_at (P := Try.prog) 9 Try.underlying9 L k (by omega) _ rfl (k : Int) rfl .i64 W
    have hll : (k : Int) < (L.length : Int) := by omega
    by_cases hlt : k < d
    · have hn := HLn.out k hlt
      generalize L.getD k 0 = x at hix hn
      have hdi : (x.toNat : Int) ≠ (c.toNat : Int) := by
        intro e
        exact hn (UInt8.toNat_inj.1 (by omega))
      have hdn : ¬ x.toNat = c.toNat := by omega
      clear hn hk
      go_wp2_with fail
      go_roundg (gk - 1)
      case measure => go_light; have := HM.out; omega
      case rel =>
        go_light
        have := HM.out
        exact ⟨k + 1, by omega, by omega, int_cast (by omega), rfl⟩
    · obtain rfl : k = d := by omega
      rw [← HC.out] at hix
      clear hk HM
      go_wp2_with fail
      go_ret
      exact ⟨rfl, rfl⟩

set_option maxRecDepth 100000 in
set_option maxHeartbeats 4000000 in
theorem nameBits_walk (a0 : ByteArray) (a1 : ByteArray) (w0 : a0.size ≤ maxLen) (w1 : a1.size ≤ maxLen) (w : World) : Calls Try.prog 10 #[.string a0, .string a1] w fun e w' => e = .returned (.bool true) ∧ Below w.heap.size w w' := by
  obtain ⟨⟨l0⟩⟩ := a0
  obtain ⟨⟨l1⟩⟩ := a1
  have hlen : l0.length ≤ maxLen := w0
  have hlen1 : l1.length ≤ maxLen := w1
  unfold maxLen at hlen hlen1
  clear w0 w1
  obtain ⟨n, hn, hmin, hn3⟩ : ∃ n : Nat, (n : Int) ≤ l0.length ∧ min (l0.length : Int) 300 = (n : Int) ∧ n ≤ 300 := ⟨min l0.length 300, by omega, by omega, by omega⟩
  obtain ⟨n1, hn1, hmin1, hn13⟩ : ∃ n : Nat, (n : Int) ≤ l1.length ∧ min (l1.length : Int) 300 = (n : Int) ∧ n ≤ 300 := ⟨min l1.length 300, by omega, by omega, by omega⟩
  go_enter Try.func10, Try.ntmps10
  go_wp2_with fail
  have hts : (l0.take n).length ≤ 300 := by rw [List.length_take]; omega
  have hts1 : (l1.take n1).length ≤ 300 := by rw [List.length_take]; omega
  generalize l0.take n = s at hts ⊢
  generalize l1.take n1 = t at hts1 ⊢
  clear hmin hn hlen hn3 hmin1 hn1 hlen1 hn13
  have hh1 : hashL s = hashOf (sumL s) := rfl
  have hh2 : hashL t = hashOf (sumL t) := rfl
  have hk1 := hashL_len s
  have hk2 := hashL_len t
  have hs1 := sumL_len s
  have hs2 := sumL_len t
  have H1 := fun W => hash_any s (by omega) W
  have H2 := fun W => hash_any t (by omega) W
  have H3 := fun W => sum_any s (by omega) W
  have H4 := fun W => sum_any t (by omega) W
  generalize hashL s = h at hh1 hk1 H1
  generalize hashL t = k at hh2 hk2 H2
  generalize sumL s = sa at hh1 hs1 H3
  generalize sumL t = sb at hh2 hs2 H4
  have HH1 := hid hh1
  have HH2 := hid hh2
  have G1 := hid H1
  have G2 := hid H2
  have G3 := hid H3
  have G4 := hid H4
  have i1 : (h.length : Int) = 32 := by omega
  have i2 : (k.length : Int) = 32 := by omega
  have i3 : (sa.length : Int) = 32 := by omega
  have i4 : (sb.length : Int) = 32 := by omega
  clear hh1 hh2 H1 H2 H3 H4
  refine (G1.out _).mono ?_
  rintro e w1 ⟨rfl, hB1⟩
  go_wp2_with fail
  refine (G2.out _).mono ?_
  rintro e w2 ⟨rfl, hB2⟩
  have hbb := hB1.trans (hB2.mono hB1.size)
  clear hB1 hB2
  go_wp2_with fail
  refine (G3.out _).mono ?_
  rintro e w3 ⟨rfl, hB3⟩
  have hbb := hbb.trans (hB3.mono hbb.size)
  clear hB3
  go_wp2_with fail
  refine (G4.out _).mono ?_
  rintro e w4 ⟨rfl, hB4⟩
  have hbb := hbb.trans (hB4.mono hbb.size)
  clear hB4
  go_wp2_with fail
  obtain ⟨N, hN⟩ : ∃ N, N = numL (sa.take 20) := ⟨_, rfl⟩
  have HN := hid hN
  clear hN
  go_loopg [9, 10, 11, 12] 32 (fun m v9 v10 v11 v12 wr => ∃ i : Nat, m + i = 32 ∧ v12 = .int .i64 i ∧ v11 = .int .i64 ((5 * i % 8 : Nat) : Int) ∧ v10 = .int .i64 ((N / 2 ^ (160 - 5 * i) % 2 ^ (5 * i % 8) : Nat) : Int) ∧ v9 = .string ⟨(sa.take (5 * i / 8)).toArray⟩ ∧ Below w.heap.size w wr)
  case atStart => exact ⟨0, rfl, rfl, rfl, int_cast (by simp [Nat.mod_one]), rfl, hbb⟩
  case round =>
    obtain ⟨i, hm, rfl, rfl, rfl, rfl, hB⟩ := hrel
    have HM := hid hm
    by_cases hlt : i < 32
    · have i32 : (i : Int) < 32 := by omega
      have hix := fun W => run_index_at (P := Try.prog) 9 Try.underlying9 h i (by omega) _ rfl (i : Int) rfl .i64 W
      have hltr : h.getD i 0 = ltr N i := by rw [HH1.out, HN.out, hashOf, ltrs_get _ _ _ hlt]
      rw [hltr] at hix
      have hV := fun W => value_any (digN N i) (digN_lt _ _) (ltr N i) rfl W
      have hdl := digN_lt N i
      obtain ⟨r, hr⟩ : ∃ r, r = 5 * i % 8 := ⟨_, rfl⟩
      obtain ⟨q, hq⟩ : ∃ q, q = 5 * i / 8 := ⟨_, rfl⟩
      have hr7 : r ≤ 7 := by omega
      have hq20 : q < 20 := by omega
      have h5 : N / 2 ^ (160 - 5 * i) % 2 ^ r * 32 + digN N i = N / 2 ^ (155 - 5 * i) % 2 ^ (r + 5) := by
        rw [digN, ← have5 _ r hr7, show 160 - 5 * i = (155 - 5 * i) + 5 by omega, Nat.pow_add, ← Nat.div_div_eq_div_mul]
      have hxl : N / 2 ^ (160 - 5 * i) % 2 ^ r < 128 := by
        have h1 := Nat.mod_lt (N / 2 ^ (160 - 5 * i)) (Nat.two_pow_pos r)
        have h2 : 2 ^ r ≤ 2 ^ 7 := Nat.pow_le_pow_right (by decide) hr7
        omega
      rw [← hr, ← hq]
      obtain ⟨M, hMM⟩ : ∃ M, M = N / 2 ^ (155 - 5 * i) := ⟨_, rfl⟩
      rw [← hMM] at h5
      have HM5 := hid hMM
      generalize ltr N i = c at hix hV
      generalize digN N i = dg at hV h5 hdl
      generalize N / 2 ^ (160 - 5 * i) % 2 ^ r = x at *
      obtain ⟨y, hy0⟩ : ∃ y, y = x * 32 + dg := ⟨_, rfl⟩
      have hy : (x : Int) * 32 + (dg : Int) = (y : Int) := by omega
      have hyl : y < 4096 := by omega
      rw [← hy0] at h5
      have HY := hid h5
      have HV := hid hV
      have HR := hid hr
      have HQ := hid hq
      have hql : (sa.take q).length ≤ 32 := by rw [List.length_take]; omega
      obtain ⟨z, hz⟩ : ∃ z, z = y % 2 ^ (r - 3) := ⟨_, rfl⟩
      have HZ := hid hz
      have hzm : z = M % 2 ^ (r - 3) := by rw [hz, h5, mod_mod_pow M (r + 5) (r - 3) (by omega)]
      have HZM := hid hzm
      obtain ⟨bt, hbt⟩ : ∃ bt, bt = sa.getD q 0 := ⟨_, rfl⟩
      have hsn : sa.take (q + 1) = sa.take q ++ [bt] := by
        have hi : q < sa.length := by omega
        rw [List.take_succ_eq_append_getElem hi, hbt]
        simp [List.getD, List.getElem?_eq_getElem hi]
      have hb0 : 3 ≤ r → bt.toNat = y / 2 ^ (r - 3) := fun h3 => by
        have l20 : (sa.take 20).length = 20 := by rw [List.length_take]; omega
        have e1 := byte_at (sa.take 20) l20 q hq20
        have e2 : (sa.take 20).getD q 0 = sa.getD q 0 := by simp [List.getD, hq20]
        rw [e2, ← hbt, ← HN.out] at e1
        rw [e1, h5, take_byte M r h3 hr7, hMM, Nat.div_div_eq_div_mul, ← Nat.pow_add]
        congr 3
        omega
      have HB0 := hid hb0
      have HSN := hid hsn
      have hbtl := bt.toNat_lt
      have hst := one_string bt wr
      clear hr hq h5 hMM hV hy0 hm hltr hz hzm hbt hsn hb0
      match r, hr7 with
      | 0, _ =>
        go_wp2_with fail
        refine (HV.out _).mono ?_
        rintro e w5 ⟨rfl, hw5⟩
        obtain rfl := hw5
        go_wp2_with fail
        go_roundg (31 - i)
        case measure => go_light; have := HM.out; omega
        case rel =>
          go_light
          have := HM.out
          refine ⟨i + 1, by omega, int_cast (by omega), int_cast (by have := HR.out; omega), int_cast ?_, ?_, hB⟩
          · rw [show 5 * (i + 1) % 8 = 5 by (have := HR.out; omega), show 160 - 5 * (i + 1) = 155 - 5 * i by omega, ← HM5.out, ← HY.out]
          · rw [show 5 * (i + 1) / 8 = q by (have := HR.out; have := HQ.out; omega)]
      | 1, _ =>
        go_wp2_with fail
        refine (HV.out _).mono ?_
        rintro e w5 ⟨rfl, hw5⟩
        obtain rfl := hw5
        go_wp2_with fail
        go_roundg (31 - i)
        case measure => go_light; have := HM.out; omega
        case rel =>
          go_light
          have := HM.out
          refine ⟨i + 1, by omega, int_cast (by omega), int_cast (by have := HR.out; omega), int_cast ?_, ?_, hB⟩
          · rw [show 5 * (i + 1) % 8 = 6 by (have := HR.out; omega), show 160 - 5 * (i + 1) = 155 - 5 * i by omega, ← HM5.out, ← HY.out]
          · rw [show 5 * (i + 1) / 8 = q by (have := HR.out; have := HQ.out; omega)]
      | 2, _ =>
        go_wp2_with fail
        refine (HV.out _).mono ?_
        rintro e w5 ⟨rfl, hw5⟩
        obtain rfl := hw5
        go_wp2_with fail
        go_roundg (31 - i)
        case measure => go_light; have := HM.out; omega
        case rel =>
          go_light
          have := HM.out
          refine ⟨i + 1, by omega, int_cast (by omega), int_cast (by have := HR.out; omega), int_cast ?_, ?_, hB⟩
          · rw [show 5 * (i + 1) % 8 = 7 by (have := HR.out; omega), show 160 - 5 * (i + 1) = 155 - 5 * i by omega, ← HM5.out, ← HY.out]
          · rw [show 5 * (i + 1) / 8 = q by (have := HR.out; have := HQ.out; omega)]
      | 3, _ =>
        have hb1 := HB0.out (by decide)
        rw [show 2 ^ (3 - 3) = 1 from rfl] at hb1
        have hbe : (y : Int) % 256 = (bt.toNat : Int) := by omega
        have hand : bits .and .i64 (y : Int) 0 = (z : Int) := by
          have h0 := and_mask y 0 hyl (by decide)
          rw [show ((2 ^ 0 - 1 : Nat) : Int) = 0 from rfl] at h0
          exact h0.trans (congrArg _ HZ.out.symm)
        clear hb1
        go_wp2_with fail
        refine (HV.out _).mono ?_
        rintro e w5 ⟨rfl, hw5⟩
        obtain rfl := hw5
        go_wp2_with fail
        go_roundg (31 - i)
        case measure => go_light; have := HM.out; omega
        case rel =>
          go_light
          have := HM.out
          refine ⟨i + 1, by omega, int_cast (by omega), int_cast (by have := HR.out; omega), int_cast ?_, ?_, hB.alloc hB.size _⟩
          · rw [show 5 * (i + 1) % 8 = 3 - 3 by (have := HR.out; omega), show 160 - 5 * (i + 1) = 155 - 5 * i by omega, ← HM5.out, ← HZM.out]
          · rw [show 5 * (i + 1) / 8 = q + 1 by (have := HR.out; have := HQ.out; omega), HSN.out]
      | 4, _ =>
        have hb1 := HB0.out (by decide)
        rw [show 2 ^ (4 - 3) = 2 from rfl] at hb1
        have hbe : (y : Int) / 2 % 256 = (bt.toNat : Int) := by omega
        have hand : bits .and .i64 (y : Int) 1 = (z : Int) := by
          have h0 := and_mask y 1 hyl (by decide)
          rw [show ((2 ^ 1 - 1 : Nat) : Int) = 1 from rfl] at h0
          exact h0.trans (congrArg _ HZ.out.symm)
        clear hb1
        go_wp2_with fail
        refine (HV.out _).mono ?_
        rintro e w5 ⟨rfl, hw5⟩
        obtain rfl := hw5
        go_wp2_with fail
        go_roundg (31 - i)
        case measure => go_light; have := HM.out; omega
        case rel =>
          go_light
          have := HM.out
          refine ⟨i + 1, by omega, int_cast (by omega), int_cast (by have := HR.out; omega), int_cast ?_, ?_, hB.alloc hB.size _⟩
          · rw [show 5 * (i + 1) % 8 = 4 - 3 by (have := HR.out; omega), show 160 - 5 * (i + 1) = 155 - 5 * i by omega, ← HM5.out, ← HZM.out]
          · rw [show 5 * (i + 1) / 8 = q + 1 by (have := HR.out; have := HQ.out; omega), HSN.out]
      | 5, _ =>
        have hb1 := HB0.out (by decide)
        rw [show 2 ^ (5 - 3) = 4 from rfl] at hb1
        have hbe : (y : Int) / 4 % 256 = (bt.toNat : Int) := by omega
        have hand : bits .and .i64 (y : Int) 3 = (z : Int) := by
          have h0 := and_mask y 2 hyl (by decide)
          rw [show ((2 ^ 2 - 1 : Nat) : Int) = 3 from rfl] at h0
          exact h0.trans (congrArg _ HZ.out.symm)
        clear hb1
        go_wp2_with fail
        refine (HV.out _).mono ?_
        rintro e w5 ⟨rfl, hw5⟩
        obtain rfl := hw5
        go_wp2_with fail
        go_roundg (31 - i)
        case measure => go_light; have := HM.out; omega
        case rel =>
          go_light
          have := HM.out
          refine ⟨i + 1, by omega, int_cast (by omega), int_cast (by have := HR.out; omega), int_cast ?_, ?_, hB.alloc hB.size _⟩
          · rw [show 5 * (i + 1) % 8 = 5 - 3 by (have := HR.out; omega), show 160 - 5 * (i + 1) = 155 - 5 * i by omega, ← HM5.out, ← HZM.out]
          · rw [show 5 * (i + 1) / 8 = q + 1 by (have := HR.out; have := HQ.out; omega), HSN.out]
      | 6, _ =>
        have hb1 := HB0.out (by decide)
        rw [show 2 ^ (6 - 3) = 8 from rfl] at hb1
        have hbe : (y : Int) / 8 % 256 = (bt.toNat : Int) := by omega
        have hand : bits .and .i64 (y : Int) 7 = (z : Int) := by
          have h0 := and_mask y 3 hyl (by decide)
          rw [show ((2 ^ 3 - 1 : Nat) : Int) = 7 from rfl] at h0
          exact h0.trans (congrArg _ HZ.out.symm)
        clear hb1
        go_wp2_with fail
        refine (HV.out _).mono ?_
        rintro e w5 ⟨rfl, hw5⟩
        obtain rfl := hw5
        go_wp2_with fail
        go_roundg (31 - i)
        case measure => go_light; have := HM.out; omega
        case rel =>
          go_light
          have := HM.out
          refine ⟨i + 1, by omega, int_cast (by omega), int_cast (by have := HR.out; omega), int_cast ?_, ?_, hB.alloc hB.size _⟩
          · rw [show 5 * (i + 1) % 8 = 6 - 3 by (have := HR.out; omega), show 160 - 5 * (i + 1) = 155 - 5 * i by omega, ← HM5.out, ← HZM.out]
          · rw [show 5 * (i + 1) / 8 = q + 1 by (have := HR.out; have := HQ.out; omega), HSN.out]
      | 7, _ =>
        have hb1 := HB0.out (by decide)
        rw [show 2 ^ (7 - 3) = 16 from rfl] at hb1
        have hbe : (y : Int) / 16 = (bt.toNat : Int) := by omega
        have hand : bits .and .i64 (y : Int) 15 = (z : Int) := by
          have h0 := and_mask y 4 hyl (by decide)
          rw [show ((2 ^ 4 - 1 : Nat) : Int) = 15 from rfl] at h0
          exact h0.trans (congrArg _ HZ.out.symm)
        clear hb1
        go_wp2_with fail
        refine (HV.out _).mono ?_
        rintro e w5 ⟨rfl, hw5⟩
        obtain rfl := hw5
        go_wp2_with fail
        go_roundg (31 - i)
        case measure => go_light; have := HM.out; omega
        case rel =>
          go_light
          have := HM.out
          refine ⟨i + 1, by omega, int_cast (by omega), int_cast (by have := HR.out; omega), int_cast ?_, ?_, hB.alloc hB.size _⟩
          · rw [show 5 * (i + 1) % 8 = 7 - 3 by (have := HR.out; omega), show 160 - 5 * (i + 1) = 155 - 5 * i by omega, ← HM5.out, ← HZM.out]
          · rw [show 5 * (i + 1) / 8 = q + 1 by (have := HR.out; have := HQ.out; omega), HSN.out]
    · obtain rfl : i = 32 := by omega
      rw [show 5 * 32 % 8 = 0 from rfl, show 5 * 32 / 8 = 20 from rfl, show ((32 : Nat) : Int) = 32 from rfl, show ((0 : Nat) : Int) = 0 from rfl]
      generalize N / 2 ^ (160 - 5 * 32) % 2 ^ 0 = x
      have s1 : (20 : Int) ≤ (sa.length : Int) := by omega
      have s2 : (20 : Int) ≤ (sb.length : Int) := by omega
      clear hm HM hlt
      by_cases he : sa.take 20 = sb.take 20
      · have hhk : h = k := by rw [HH1.out, HH2.out, hashOf, hashOf, he]
        subst hhk
        clear HH1 HH2 HN G1 G2 G3 G4
        go_wp2_with fail
        go_region_held3 (fun w' => True) (trivial)
          ((go_at_call 19; refine (works_any _).mono ?_; rintro e w5 ⟨rfl, hB5⟩))
        rename_i hHeld
        clear hHeld
        go_wp2_with fail
        go_ret
        exact ⟨by rfl, hB.drew.trans (hB5.mono hB.size)⟩
      · have hhk : (h == k) = false := by
          rw [beq_eq_false_iff_ne]
          intro e
          rw [HH1.out, HH2.out] at e
          exact he (hashOf_inj sa sb hs1 hs2 e)
        have hhe : (sa.take 20 == sb.take 20) = false := beq_eq_false_iff_ne.2 he
        clear HH1 HH2 HN G1 G2 G3 G4
        go_wp2_with fail
        go_region_held3 (fun w' => True) (trivial)
          ((go_at_call 19; refine (works_any _).mono ?_; rintro e w5 ⟨rfl, hB5⟩))
        rename_i hHeld
        clear hHeld
        go_wp2_with fail
        go_ret
        exact ⟨by rfl, hB.drew.trans (hB5.mono hB.size)⟩
end Go.Proofs.Ythacopmahjcmaaa
