/-
  The walk of GlobNot.
-/
import Derived.Test.YtklihdlfbhgpeaaG19
namespace Go.Proofs.Ytklihdlfbhgpeaa
open Go.RowKit
set_option linter.unusedVariables false

/-- ] [ ! ^ - -/
def SP : List UInt8 := [93, 91, 33, 94, 45]
/-- What is left of the first k bytes. -/
def keepL (s : List UInt8) (k : Nat) : List UInt8 := (s.take k).filter fun b => !SP.contains b
theorem keepL_succ (s : List UInt8) {k : Nat} (h : k < s.length) : keepL s (k + 1) = keepL s k ++ (if SP.contains (s.getD k 0) then [] else [s.getD k 0]) := by
  unfold keepL
  rw [getD_succ s 0 h, List.filter_append]
  congr 1
  rw [List.filter_cons, List.filter_nil]
  generalize SP.contains (s.getD k 0) = o
  cases o <;> rfl
theorem keepL_len (s : List UInt8) (k : Nat) : (keepL s k).length ≤ k := by
  unfold keepL
  have := List.length_filter_le (fun b => !SP.contains b) (s.take k)
  rw [List.length_take] at this
  omega
theorem keepL_no {s : List UInt8} {k : Nat} {b : UInt8} (h : b ∈ keepL s k) : SP.contains b = false := by
  unfold keepL at h
  simpa using (List.mem_filter.1 h).2
theorem sp_isC {b : UInt8} (h : SP.contains b = false) (q : Bool) : isC (b, q) 93 = false ∧ isC (b, q) 45 = false ∧ isNot (b, q) = false := by
  simp [SP] at h
  obtain ⟨h1, h2, h3, h4, h5⟩ := h
  refine ⟨?_, ?_, ?_⟩ <;> simp [isC, isNot, h1, h3, h4, h5]
/-- The four patterns of a set of bytes. -/
theorem not_bare (t : List UInt8) (h0 : t ≠ []) (h : ∀ b ∈ t, SP.contains b = false) (x : UInt8) :
    matchP (pieces (chs [⟨91 :: (t ++ [93]), false, false⟩])) [x] = t.contains x ∧
    matchP (pieces (chs [⟨91 :: 33 :: (t ++ [93]), false, false⟩])) [x] = !t.contains x ∧
    matchP (pieces (chs [⟨91 :: 94 :: (t ++ [93]), false, false⟩])) [x] = !t.contains x ∧
    matchP (pieces (chs [⟨[91], false, false⟩, ⟨t, true, false⟩, ⟨[93], false, false⟩])) [x] = t.contains x := by
  have hb : ∀ q, ∀ c ∈ t.map (fun b => (b, q)), isC c 93 = false ∧ isC c 45 = false ∧ isNot c = false := by
    intro q c hc
    obtain ⟨b, hb, rfl⟩ := List.mem_map.1 hc
    exact sp_isC (h b hb) q
  have hm : ∀ q : Bool, (t.map (fun b => (b, q))).map (·.1) = t := fun q => by rw [List.map_map]; simp [Function.comp_def]
  have hne : ∀ q : Bool, t.map (fun b => (b, q)) ≠ [] := fun q => by simpa using h0
  refine ⟨?_, ?_, ?_, ?_⟩
  · have e : chs [⟨91 :: (t ++ [93]), false, false⟩] = (91, false) :: (t.map (fun b => (b, false)) ++ [(93, false)]) := by simp [chs, chr]
    rw [e, match_set _ (hne _) (fun c hc => (hb _ c hc).1) (fun c hc => (hb _ c hc).2.2) (fun c hc => (hb _ c hc).2.1), hm]
  · have e : chs [⟨91 :: 33 :: (t ++ [93]), false, false⟩] = (91, false) :: (33, false) :: (t.map (fun b => (b, false)) ++ [(93, false)]) := by simp [chs, chr]
    rw [e, match_notset _ rfl _ (hne _) (fun c hc => (hb _ c hc).1) (fun c hc => (hb _ c hc).2.1), hm]
  · have e : chs [⟨91 :: 94 :: (t ++ [93]), false, false⟩] = (91, false) :: (94, false) :: (t.map (fun b => (b, false)) ++ [(93, false)]) := by simp [chs, chr]
    rw [e, match_notset _ rfl _ (hne _) (fun c hc => (hb _ c hc).1) (fun c hc => (hb _ c hc).2.1), hm]
  · have e : chs [⟨[91], false, false⟩, ⟨t, true, false⟩, ⟨[93], false, false⟩] = (91, false) :: (t.map (fun b => (b, true)) ++ [(93, false)]) := by simp [chs, chr]
    rw [e, match_set _ (hne _) (fun c hc => (hb _ c hc).1) (fun c hc => (hb _ c hc).2.2) (fun c hc => (hb _ c hc).2.1), hm]
theorem index_any (l : List UInt8) (x : UInt8) (w : World) : Calls Try.prog 14 #[.string ⟨l.toArray⟩, .int .u8 (x.toNat : Int)] w fun e w' => (∃ v : Int, e = .returned (.int .i64 v) ∧ decide (0 ≤ v) = l.contains x) ∧ w' = w := by
  refine (Try.strings_IndexByte _ _ _).mono ?_
  rintro e w1 ⟨rfl, rfl⟩
  have e1 : (x.toNat : Int).toNat.toUInt8 = x := by
    have : (x.toNat : Int).toNat = x.toNat := by omega
    rw [this]; simp
  have hl : (ByteArray.mk l.toArray).data.toList = l := by simp
  rw [e1, hl]
  have hi := indexByte_mem l x
  refine ⟨⟨_, rfl, ?_⟩, rfl⟩
  cases hm : l.contains x with
  | true => rw [decide_eq_true (hi.1 hm)]
  | false => rw [hi.2 hm]; rfl

set_option maxRecDepth 100000 in
set_option maxHeartbeats 4000000 in
theorem globNot_list (l : List UInt8) (w : World) : Calls Try.prog 4 #[.string ⟨l.toArray⟩] w fun e w' => e = .returned (.bool true) ∧ Below w.heap.size w w' := by
  go_enter Try.func4, Try.ntmps4
  go_wp2_with fail
  refine (works_any _).mono ?_
  rintro e w1 ⟨rfl, hb1⟩
  go_wp2_with fail
  go_loopg [3, 4] 8 (fun m v3 v4 wr => ∃ k : Nat, m + k = 8 ∧ k ≤ l.length ∧ v4 = .int .i64 k ∧ v3 = .string ⟨(keepL l k).toArray⟩ ∧ w1 = wr)
  case atStart => exact ⟨0, rfl, by omega, rfl, rfl, rfl⟩
  case round =>
    obtain ⟨k, hm, hkl, rfl, rfl, hwe⟩ := hrel
    subst hwe
    have HM := hid hm
    have h8 : k ≤ 8 := by omega
    clear hm
    by_cases hlt : k < l.length
    · by_cases hk8 : k < 8
      · have hkI : (k : Int) < l.length := by omega
        have hkJ : (k : Int) < 8 := by omega
        have hkK : (k : Int) + 1 ≤ l.length := by omega
        have hkZ : (k : Int) ≤ (k : Int) + 1 := by omega
        have hix := fun W => run_index_at (P := Try.prog) 9 Try.underlying9 l k hlt _ rfl (k : Int) rfl .i64 W
        have hks := keepL_succ l hlt
        have hbs : (l.drop k).take 1 = [l.getD k 0] := by rw [drop_byte hlt]; rfl
        have hkl2 := keepL_len l k
        obtain ⟨x, hx⟩ : ∃ x, x = l.getD k 0 := ⟨_, rfl⟩
        rw [← hx] at hix hks hbs
        have HKS := hid hks
        have HBS := hid hbs
        have hle1 : (keepL l k).length ≤ 8 := by omega
        clear hks hbs hx hkl2
        go_wp2_with fail
        refine (index_any SP x _).mono ?_
        rintro e w2 ⟨⟨v, rfl, hv⟩, rfl⟩
        cases hc : SP.contains x with
        | true =>
          rw [hc, decide_eq_true_iff] at hv
          have HC := hid hc
          have hv2 : ¬ v < 0 := by omega
          clear hc
          go_wp2_with fail
          go_roundg (gk - 1)
          case measure => go_light; have := HM.out; omega
          case rel =>
            go_light
            have := HM.out
            exact ⟨k + 1, by omega, by omega, int_cast (by omega), by rw [HKS.out, HC.out]; simp, rfl⟩
        | false =>
          rw [hc, decide_eq_false_iff_not] at hv
          have HC := hid hc
          have hv2 : v < 0 := by omega
          clear hc hv
          go_wp2_with fail
          go_roundg (gk - 1)
          case measure => go_light; have := HM.out; omega
          case rel =>
            go_light
            have := HM.out
            exact ⟨k + 1, by omega, by omega, int_cast (by omega), by rw [HKS.out, HC.out, HBS.out]; simp, rfl⟩
      · obtain rfl : k = 8 := by omega
        have hkI : ((8 : Nat) : Int) < l.length := by omega
        obtain ⟨t, ht⟩ : ∃ t, t = keepL l 8 := ⟨_, rfl⟩
        have hno : ∀ b ∈ t, SP.contains b = false := fun b hb => keepL_no (by rw [← ht]; exact hb)
        have htl : t.length ≤ 8 := by have := keepL_len l 8; rw [ht]; omega
        rw [← ht]
        clear ht
        by_cases h0 : t = []
        · subst h0
          go_wp2_with fail
          go_ret
          exact ⟨rfl, hb1⟩
        · have hte : t.isEmpty = false := by cases t with | nil => exact absurd rfl h0 | cons a r => rfl
          have HNB := hid (not_bare t h0 hno)
          clear h0 hno
          go_wp2_with fail
          go_loopg [5] 256 (fun m v5 wx => ∃ b : Nat, m + b = 256 ∧ v5 = .int .i64 b ∧ Below w.heap.size w wx)
          case atStart => exact ⟨0, rfl, rfl, hb1⟩
          case round =>
            obtain ⟨b, hm, rfl, hB⟩ := hrel
            have HM2 := hid hm
            clear hm hte
            by_cases hbl : b < 256
            · have hbI : (b : Int) < 256 := by omega
              have hb0 : (0 : Int) ≤ (b : Int) := by omega
              have hbe := byteOf b hbl
              have hwb : IntKind.u8.wrap (b : Int) = ((UInt8.ofNat b).toNat : Int) := by rw [hbe, IntKind.wrap_u8]; omega
              obtain ⟨x, hx⟩ : ∃ x, x = UInt8.ofNat b := ⟨_, rfl⟩
              rw [← hx] at hbe hwb
              have hrd := rd_one wr x
              have HRD := hid hrd
              clear hrd hbe hx
              go_wp2_with (refine wpList_string_of rfl (.tmp 40) 24 9 5 rfl Try.underlying24 Try.underlying5 Try.underlying9 (wr.heap.size + 1) _ 1 1 rfl [x] HRD.out ?_)
              refine (index_any t x _).mono ?_
              rintro e w4 ⟨⟨v, rfl, hv⟩, rfl⟩
              have hB2 : Below w.heap.size w (wr.alloc (.cells #[.int .u8 (x.toNat : Int)] 5)) := hB.alloc hB.size _
              obtain ⟨n1, n2, n3, n4⟩ := HNB.out x
              have N1 := hid n1
              have N2 := hid n2
              have N3 := hid n3
              have N4 := hid n4
              clear n1 n2 n3 n4 hB
              cases hin : t.contains x with
              | true =>
                have HIN := hid hin
                rw [hin, decide_eq_true_iff] at hv
                clear hin
                go_wp2_with fail
                refine (bare_any (91 :: (t ++ [93])) (by simp; omega) _).mono ?_
                rintro e wa0 ⟨Ba0, rfl, hp0, ha0⟩
                have hc0 := hB2.trans (ha0.mono hB2.size)
                have hm0 := match_any' (some ⟨Ba0, 0, none⟩) 1 [⟨91 :: (t ++ [93]), false, false⟩] [x] (by simp) _ hp0
                rw [N1.out, HIN.out] at hm0
                clear hp0 ha0
                go_wp2_with fail
                refine hm0.mono ?_
                rintro e wb0 ⟨rfl, hb0⟩
                have hd0 := hc0.trans (hb0.mono hc0.size)
                clear hm0 hc0 hb0
                go_wp2_with fail
                refine (bare_any (91 :: 33 :: (t ++ [93])) (by simp; omega) _).mono ?_
                rintro e wa1 ⟨Ba1, rfl, hp1, ha1⟩
                have hc1 := hd0.trans (ha1.mono hd0.size)
                have hm1 := match_any' (some ⟨Ba1, 0, none⟩) 1 [⟨91 :: 33 :: (t ++ [93]), false, false⟩] [x] (by simp) _ hp1
                rw [N2.out, HIN.out] at hm1
                clear hp1 ha1
                go_wp2_with fail
                refine hm1.mono ?_
                rintro e wb1 ⟨rfl, hb1⟩
                have hd1 := hc1.trans (hb1.mono hc1.size)
                clear hm1 hc1 hb1
                go_wp2_with fail
                refine (bare_any (91 :: 94 :: (t ++ [93])) (by simp; omega) _).mono ?_
                rintro e wa2 ⟨Ba2, rfl, hp2, ha2⟩
                have hc2 := hd1.trans (ha2.mono hd1.size)
                have hm2 := match_any' (some ⟨Ba2, 0, none⟩) 1 [⟨91 :: 94 :: (t ++ [93]), false, false⟩] [x] (by simp) _ hp2
                rw [N3.out, HIN.out] at hm2
                clear hp2 ha2
                go_wp2_with fail
                refine hm2.mono ?_
                rintro e wb2 ⟨rfl, hb2⟩
                have hd2 := hc2.trans (hb2.mono hc2.size)
                clear hm2 hc2 hb2
                go_wp2_with fail
                refine (three_any [91] t [93] (by decide) (by omega) (by decide) _).mono ?_
                rintro e wa3 ⟨Ba3, rfl, hp3, ha3⟩
                have hc3 := hd2.trans (ha3.mono hd2.size)
                have hm3 := match_any' (some ⟨Ba3, 0, none⟩) 3 [⟨[91], false, false⟩, ⟨t, true, false⟩, ⟨[93], false, false⟩] [x] (by simp) _ hp3
                rw [N4.out, HIN.out] at hm3
                clear hp3 ha3
                go_wp2_with fail
                refine hm3.mono ?_
                rintro e wb3 ⟨rfl, hb3⟩
                have hd3 := hc3.trans (hb3.mono hc3.size)
                clear hm3 hc3 hb3
                go_wp2_with fail
                go_roundg (gk - 1)
                case measure => go_light; have := HM2.out; omega
                case rel =>
                  go_light
                  have := HM2.out
                  exact ⟨b + 1, by omega, int_cast (by omega), hd3⟩
              | false =>
                have HIN := hid hin
                rw [hin, decide_eq_false_iff_not] at hv
                have hv2 : v < 0 := by omega
                clear hin
                go_wp2_with fail
                refine (bare_any (91 :: (t ++ [93])) (by simp; omega) _).mono ?_
                rintro e wa0 ⟨Ba0, rfl, hp0, ha0⟩
                have hc0 := hB2.trans (ha0.mono hB2.size)
                have hm0 := match_any' (some ⟨Ba0, 0, none⟩) 1 [⟨91 :: (t ++ [93]), false, false⟩] [x] (by simp) _ hp0
                rw [N1.out, HIN.out] at hm0
                clear hp0 ha0
                go_wp2_with fail
                refine hm0.mono ?_
                rintro e wb0 ⟨rfl, hb0⟩
                have hd0 := hc0.trans (hb0.mono hc0.size)
                clear hm0 hc0 hb0
                go_wp2_with fail
                refine (bare_any (91 :: 33 :: (t ++ [93])) (by simp; omega) _).mono ?_
                rintro e wa1 ⟨Ba1, rfl, hp1, ha1⟩
                have hc1 := hd0.trans (ha1.mono hd0.size)
                have hm1 := match_any' (some ⟨Ba1, 0, none⟩) 1 [⟨91 :: 33 :: (t ++ [93]), false, false⟩] [x] (by simp) _ hp1
                rw [N2.out, HIN.out] at hm1
                clear hp1 ha1
                go_wp2_with fail
                refine hm1.mono ?_
                rintro e wb1 ⟨rfl, hb1⟩
                have hd1 := hc1.trans (hb1.mono hc1.size)
                clear hm1 hc1 hb1
                go_wp2_with fail
                refine (bare_any (91 :: 94 :: (t ++ [93])) (by simp; omega) _).mono ?_
                rintro e wa2 ⟨Ba2, rfl, hp2, ha2⟩
                have hc2 := hd1.trans (ha2.mono hd1.size)
                have hm2 := match_any' (some ⟨Ba2, 0, none⟩) 1 [⟨91 :: 94 :: (t ++ [93]), false, false⟩] [x] (by simp) _ hp2
                rw [N3.out, HIN.out] at hm2
                clear hp2 ha2
                go_wp2_with fail
                refine hm2.mono ?_
                rintro e wb2 ⟨rfl, hb2⟩
                have hd2 := hc2.trans (hb2.mono hc2.size)
                clear hm2 hc2 hb2
                go_wp2_with fail
                refine (three_any [91] t [93] (by decide) (by omega) (by decide) _).mono ?_
                rintro e wa3 ⟨Ba3, rfl, hp3, ha3⟩
                have hc3 := hd2.trans (ha3.mono hd2.size)
                have hm3 := match_any' (some ⟨Ba3, 0, none⟩) 3 [⟨[91], false, false⟩, ⟨t, true, false⟩, ⟨[93], false, false⟩] [x] (by simp) _ hp3
                rw [N4.out, HIN.out] at hm3
                clear hp3 ha3
                go_wp2_with fail
                refine hm3.mono ?_
                rintro e wb3 ⟨rfl, hb3⟩
                have hd3 := hc3.trans (hb3.mono hc3.size)
                clear hm3 hc3 hb3
                go_wp2_with fail
                go_roundg (gk - 1)
                case measure => go_light; have := HM2.out; omega
                case rel =>
                  go_light
                  have := HM2.out
                  exact ⟨b + 1, by omega, int_cast (by omega), hd3⟩
            · have := HM2.out
              obtain rfl : b = 256 := by omega
              rw [show ((256 : Nat) : Int) = 256 from rfl]
              clear this hbl
              go_wp2_with fail
              go_ret
              exact ⟨rfl, hB⟩
    · have hkI : ¬ (k : Int) < l.length := by omega
      obtain ⟨t, ht⟩ : ∃ t, t = keepL l k := ⟨_, rfl⟩
      have hno : ∀ b ∈ t, SP.contains b = false := fun b hb => keepL_no (by rw [← ht]; exact hb)
      have htl : t.length ≤ 8 := by have := keepL_len l k; rw [ht]; omega
      rw [← ht]
      clear ht
      by_cases h0 : t = []
      · subst h0
        go_wp2_with fail
        go_ret
        exact ⟨rfl, hb1⟩
      · have hte : t.isEmpty = false := by cases t with | nil => exact absurd rfl h0 | cons a r => rfl
        have HNB := hid (not_bare t h0 hno)
        clear h0 hno
        go_wp2_with fail
        go_loopg [5] 256 (fun m v5 wx => ∃ b : Nat, m + b = 256 ∧ v5 = .int .i64 b ∧ Below w.heap.size w wx)
        case atStart => exact ⟨0, rfl, rfl, hb1⟩
        case round =>
          obtain ⟨b, hm, rfl, hB⟩ := hrel
          have HM2 := hid hm
          clear hm hte
          by_cases hbl : b < 256
          · have hbI : (b : Int) < 256 := by omega
            have hb0 : (0 : Int) ≤ (b : Int) := by omega
            have hbe := byteOf b hbl
            have hwb : IntKind.u8.wrap (b : Int) = ((UInt8.ofNat b).toNat : Int) := by rw [hbe, IntKind.wrap_u8]; omega
            obtain ⟨x, hx⟩ : ∃ x, x = UInt8.ofNat b := ⟨_, rfl⟩
            rw [← hx] at hbe hwb
            have hrd := rd_one wr x
            have HRD := hid hrd
            clear hrd hbe hx
            go_wp2_with (refine wpList_string_of rfl (.tmp 40) 24 9 5 rfl Try.underlying24 Try.underlying5 Try.underlying9 (wr.heap.size + 1) _ 1 1 rfl [x] HRD.out ?_)
            refine (index_any t x _).mono ?_
            rintro e w4 ⟨⟨v, rfl, hv⟩, rfl⟩
            have hB2 : Below w.heap.size w (wr.alloc (.cells #[.int .u8 (x.toNat : Int)] 5)) := hB.alloc hB.size _
            obtain ⟨n1, n2, n3, n4⟩ := HNB.out x
            have N1 := hid n1
            have N2 := hid n2
            have N3 := hid n3
            have N4 := hid n4
            clear n1 n2 n3 n4 hB
            cases hin : t.contains x with
            | true =>
              have HIN := hid hin
              rw [hin, decide_eq_true_iff] at hv
              clear hin
              go_wp2_with fail
              refine (bare_any (91 :: (t ++ [93])) (by simp; omega) _).mono ?_
              rintro e wa0 ⟨Ba0, rfl, hp0, ha0⟩
              have hc0 := hB2.trans (ha0.mono hB2.size)
              have hm0 := match_any' (some ⟨Ba0, 0, none⟩) 1 [⟨91 :: (t ++ [93]), false, false⟩] [x] (by simp) _ hp0
              rw [N1.out, HIN.out] at hm0
              clear hp0 ha0
              go_wp2_with fail
              refine hm0.mono ?_
              rintro e wb0 ⟨rfl, hb0⟩
              have hd0 := hc0.trans (hb0.mono hc0.size)
              clear hm0 hc0 hb0
              go_wp2_with fail
              refine (bare_any (91 :: 33 :: (t ++ [93])) (by simp; omega) _).mono ?_
              rintro e wa1 ⟨Ba1, rfl, hp1, ha1⟩
              have hc1 := hd0.trans (ha1.mono hd0.size)
              have hm1 := match_any' (some ⟨Ba1, 0, none⟩) 1 [⟨91 :: 33 :: (t ++ [93]), false, false⟩] [x] (by simp) _ hp1
              rw [N2.out, HIN.out] at hm1
              clear hp1 ha1
              go_wp2_with fail
              refine hm1.mono ?_
              rintro e wb1 ⟨rfl, hb1⟩
              have hd1 := hc1.trans (hb1.mono hc1.size)
              clear hm1 hc1 hb1
              go_wp2_with fail
              refine (bare_any (91 :: 94 :: (t ++ [93])) (by simp; omega) _).mono ?_
              rintro e wa2 ⟨Ba2, rfl, hp2, ha2⟩
              have hc2 := hd1.trans (ha2.mono hd1.size)
              have hm2 := match_any' (some ⟨Ba2, 0, none⟩) 1 [⟨91 :: 94 :: (t ++ [93]), false, false⟩] [x] (by simp) _ hp2
              rw [N3.out, HIN.out] at hm2
              clear hp2 ha2
              go_wp2_with fail
              refine hm2.mono ?_
              rintro e wb2 ⟨rfl, hb2⟩
              have hd2 := hc2.trans (hb2.mono hc2.size)
              clear hm2 hc2 hb2
              go_wp2_with fail
              refine (three_any [91] t [93] (by decide) (by omega) (by decide) _).mono ?_
              rintro e wa3 ⟨Ba3, rfl, hp3, ha3⟩
              have hc3 := hd2.trans (ha3.mono hd2.size)
              have hm3 := match_any' (some ⟨Ba3, 0, none⟩) 3 [⟨[91], false, false⟩, ⟨t, true, false⟩, ⟨[93], false, false⟩] [x] (by simp) _ hp3
              rw [N4.out, HIN.out] at hm3
              clear hp3 ha3
              go_wp2_with fail
              refine hm3.mono ?_
              rintro e wb3 ⟨rfl, hb3⟩
              have hd3 := hc3.trans (hb3.mono hc3.size)
              clear hm3 hc3 hb3
              go_wp2_with fail
              go_roundg (gk - 1)
              case measure => go_light; have := HM2.out; omega
              case rel =>
                go_light
                have := HM2.out
                exact ⟨b + 1, by omega, int_cast (by omega), hd3⟩
            | false =>
              have HIN := hid hin
              rw [hin, decide_eq_false_iff_not] at hv
              have hv2 : v < 0 := by omega
              clear hin
              go_wp2_with fail
              refine (bare_any (91 :: (t ++ [93])) (by simp; omega) _).mono ?_
              rintro e wa0 ⟨Ba0, rfl, hp0, ha0⟩
              have hc0 := hB2.trans (ha0.mono hB2.size)
              have hm0 := match_any' (some ⟨Ba0, 0, none⟩) 1 [⟨91 :: (t ++ [93]), false, false⟩] [x] (by simp) _ hp0
              rw [N1.out, HIN.out] at hm0
              clear hp0 ha0
              go_wp2_with fail
              refine hm0.mono ?_
              rintro e wb0 ⟨rfl, hb0⟩
              have hd0 := hc0.trans (hb0.mono hc0.size)
              clear hm0 hc0 hb0
              go_wp2_with fail
              refine (bare_any (91 :: 33 :: (t ++ [93])) (by simp; omega) _).mono ?_
              rintro e wa1 ⟨Ba1, rfl, hp1, ha1⟩
              have hc1 := hd0.trans (ha1.mono hd0.size)
              have hm1 := match_any' (some ⟨Ba1, 0, none⟩) 1 [⟨91 :: 33 :: (t ++ [93]), false, false⟩] [x] (by simp) _ hp1
              rw [N2.out, HIN.out] at hm1
              clear hp1 ha1
              go_wp2_with fail
              refine hm1.mono ?_
              rintro e wb1 ⟨rfl, hb1⟩
              have hd1 := hc1.trans (hb1.mono hc1.size)
              clear hm1 hc1 hb1
              go_wp2_with fail
              refine (bare_any (91 :: 94 :: (t ++ [93])) (by simp; omega) _).mono ?_
              rintro e wa2 ⟨Ba2, rfl, hp2, ha2⟩
              have hc2 := hd1.trans (ha2.mono hd1.size)
              have hm2 := match_any' (some ⟨Ba2, 0, none⟩) 1 [⟨91 :: 94 :: (t ++ [93]), false, false⟩] [x] (by simp) _ hp2
              rw [N3.out, HIN.out] at hm2
              clear hp2 ha2
              go_wp2_with fail
              refine hm2.mono ?_
              rintro e wb2 ⟨rfl, hb2⟩
              have hd2 := hc2.trans (hb2.mono hc2.size)
              clear hm2 hc2 hb2
              go_wp2_with fail
              refine (three_any [91] t [93] (by decide) (by omega) (by decide) _).mono ?_
              rintro e wa3 ⟨Ba3, rfl, hp3, ha3⟩
              have hc3 := hd2.trans (ha3.mono hd2.size)
              have hm3 := match_any' (some ⟨Ba3, 0, none⟩) 3 [⟨[91], false, false⟩, ⟨t, true, false⟩, ⟨[93], false, false⟩] [x] (by simp) _ hp3
              rw [N4.out, HIN.out] at hm3
              clear hp3 ha3
              go_wp2_with fail
              refine hm3.mono ?_
              rintro e wb3 ⟨rfl, hb3⟩
              have hd3 := hc3.trans (hb3.mono hc3.size)
              clear hm3 hc3 hb3
              go_wp2_with fail
              go_roundg (gk - 1)
              case measure => go_light; have := HM2.out; omega
              case rel =>
                go_light
                have := HM2.out
                exact ⟨b + 1, by omega, int_cast (by omega), hd3⟩
          · have := HM2.out
            obtain rfl : b = 256 := by omega
            rw [show ((256 : Nat) : Int) = 256 from rfl]
            clear this hbl
            go_wp2_with fail
            go_ret
            exact ⟨rfl, hB⟩
theorem globNot_walk (s : ByteArray) (w : World) : Calls Try.prog 4 #[.string s] w fun e w' => e = .returned (.bool true) ∧ Below w.heap.size w w' := by
  rw [bytes_list s]
  exact globNot_list _ w
end Go.Proofs.Ytklihdlfbhgpeaa
