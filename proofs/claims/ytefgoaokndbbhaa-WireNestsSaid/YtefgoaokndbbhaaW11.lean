/-
  The walk of WireNests.
-/
import Derived.Test.YtefgoaokndbbhaaW8
import Derived.Test.YtefgoaokndbbhaaW9
import Derived.Deep.RegionHeld3
namespace Go.Proofs.Ytefgoaokndbbhaa
open Go.RowKit
set_option linter.unusedVariables false

/-- Texts within texts. -/
def nest : List Nat → List UInt8 → List UInt8
  | [], core => core
  | n :: l, core => numRow n ++ (numRow (nest l core).length ++ nest l core)
theorem nest_len (core : List UInt8) : ∀ l, (nest l core).length ≤ 20 * l.length + core.length
  | [] => by simp [nest]
  | n :: l => by
    have h1 := nest_len core l
    have h2 := numRow_len n
    have h3 := numRow_len (nest l core).length
    simp [nest]
    omega

/-- What a walk knows of the numbers that came in: cell i holds number i. -/
def Nums (w : World) (A : Option Addr) (ns : List Nat) : Prop :=
  (∀ n ∈ ns, n < 18446744073709551616) ∧ (0 < ns.length → ∃ b off, A = some ⟨b, off, none⟩ ∧ b < w.heap.size ∧ ∀ (i : Nat) n, ns[i]? = some n → w.cell? ⟨b, off + i, none⟩ = some (.int .u64 (n : Int)))

theorem nums_of {w : World} {a : Option Addr} {len cap : Nat} {zs : List Int} (h : IsRow .u64 w a len cap zs) (k : Nat) (hk : k ≤ len) : ∃ ns : List Nat, ns.length = k ∧ Nums w a ns := by
  rcases h with ⟨rfl, rfl, rfl, rfl⟩ | ⟨x, rfl, hl, hm, hz, hcell, hwz⟩
  · exact ⟨[], by simp; omega, by simp [Nums]⟩
  · refine ⟨(zs.take k).map Int.toNat, by simp; omega, ?_, ?_⟩
    · intro n hn
      obtain ⟨z, hz1, rfl⟩ := List.mem_map.1 hn
      have := bounds_u64 (hwz z (List.mem_of_mem_take hz1))
      omega
    · intro hp
      obtain ⟨b, off, spot⟩ := x
      have hk0 : 0 < k := by simp at hp; omega
      have hspot : spot = none := by
        have h0 := World.cell?_spot (hcell 0 (by omega))
        simpa [Addr.add] using h0
      subst hspot
      have e : ∀ i, (⟨b, off, none⟩ : Addr).add i = ⟨b, off + i, none⟩ := fun i => by unfold Addr.add; split <;> simp_all
      have h0 := hcell 0 (by omega)
      rw [e] at h0
      refine ⟨b, off, rfl, World.block_lt_of_cell? w _ h0, fun i n hi => ?_⟩
      have hi2 : i < k := by
        have := (List.getElem?_eq_some_iff.1 hi).1
        simp at this
        omega
      have hc := hcell i (by omega)
      rw [e] at hc
      rw [hc]
      have hlt : i < zs.length := by omega
      rw [List.getElem?_map, List.getElem?_take, if_pos hi2, List.getElem?_eq_getElem hlt] at hi
      simp at hi
      have := bounds_u64 (hwz zs[i] (List.getElem_mem hlt))
      simp [List.getD, List.getElem?_eq_getElem hlt]
      omega

theorem Nums.at_ {w wr : World} {A : Option Addr} {ns : List Nat} (h : Nums w A ns) (hb : Below w.heap.size w wr) {i : Nat} (hi : i < ns.length) :
    ∃ b off, A = some ⟨b, off, none⟩ ∧ b < w.heap.size ∧ wr.cell? ⟨b, off + i, none⟩ = some (.int .u64 (ns[i] : Int)) ∧ ns[i] < 18446744073709551616 := by
  obtain ⟨b, off, rfl, hbl, hc⟩ := h.2 (by omega)
  refine ⟨b, off, rfl, hbl, ?_, h.1 _ (List.getElem_mem hi)⟩
  rw [hb.cell (p := ⟨b, off + i, none⟩) hbl]
  exact hc i _ (List.getElem?_eq_getElem hi)

theorem txt_cut (t : List UInt8) (h : t.length < 18446744073709551616) :
    txtVal ((numRow t.length ++ t).take ((numRow t.length ++ t).length - 1)) = [] ∧ txtLost ((numRow t.length ++ t).take ((numRow t.length ++ t).length - 1)) false = true := by
  have hp := numRow_pos t.length
  by_cases h0 : t = []
  · subst h0
    exact ⟨by decide +kernel, by decide +kernel⟩
  · have hl : 0 < t.length := List.length_pos_iff.2 h0
    have e : (numRow t.length ++ t).take ((numRow t.length ++ t).length - 1) = numRow t.length ++ t.take (t.length - 1) := by
      rw [List.length_append, List.take_append, List.take_of_length_le (by omega), show (numRow t.length).length + t.length - 1 - (numRow t.length).length = t.length - 1 by omega]
    rw [e]
    exact txt_short _ h _ (by rw [List.length_take]; omega) _
theorem nest_cut (n : Nat) (t : List UInt8) : (numRow n ++ (numRow t.length ++ t)).take ((numRow n ++ (numRow t.length ++ t)).length - 1) = numRow n ++ (numRow t.length ++ t).take ((numRow t.length ++ t).length - 1) := by
  have hp := numRow_pos t.length
  generalize hU : numRow t.length ++ t = U
  have hU' : 0 < U.length := by rw [← hU, List.length_append]; omega
  rw [List.length_append, List.take_append, List.take_of_length_le (by omega), show (numRow n).length + U.length - 1 - (numRow n).length = U.length - 1 by omega]

set_option maxRecDepth 100000 in
set_option maxHeartbeats 2000000 in
theorem wireNests_walk (a0 : Option Addr) (len0 cap0 : Nat) (z0 : List Int) (a1 : ByteArray) (w : World) (w0 : IsRow .u64 w a0 len0 cap0 z0) (w1 : a1.size ≤ maxLen) :
    Calls Try.prog 5 #[.slice a0 len0 cap0, .string a1] w fun e w' => e = .returned (.bool true) ∧ Below w.heap.size w w' := by
  obtain ⟨c, rfl⟩ := bytes_eq a1
  have hcap : len0 ≤ cap0 ∧ len0 ≤ 9223372036854775807 := by
    rcases w0 with ⟨_, rfl, rfl, _⟩ | ⟨x, _, hl, hm, _⟩
    · omega
    · unfold maxLen at hm; omega
  go_enter Try.func5, Try.ntmps5
  go_wp2_with fail
  go_region
  have q2 := cut_len c 300
  simp only [Int.cast_ofNat_Int] at q2
  generalize List.take _ c = core at *
  generalize (if (300 : Int) < (c.length : Int) then (300 : Int) else (c.length : Int)) = m2
  obtain ⟨k, hk1, hk2, hk3⟩ : ∃ k, k = (if (30 : Int) < (len0 : Int) then (30 : Int) else (len0 : Int)).toNat ∧ k ≤ 30 ∧ k ≤ len0 := ⟨_, rfl, by split <;> omega, by split <;> omega⟩
  rw [← hk1]
  clear hk1
  generalize (if (30 : Int) < (len0 : Int) then (30 : Int) else (len0 : Int)) = m1
  obtain ⟨ns, hnl, hns⟩ := nums_of w0 k hk3
  subst hnl
  have hnest : ∀ m, (nest (ns.drop m) core).length ≤ 900 := fun m => by
    have h1 := nest_len core (ns.drop m)
    rw [List.length_drop] at h1
    omega
  have HNL := hid hnest
  clear hnest w0
  go_wp2_with fail
  go_loopg [5, 6] ns.length (fun m v5 v6 wr => m ≤ ns.length ∧ v6 = .int .i64 ((m : Int) - 1) ∧ v5 = .string ⟨(nest (ns.drop m) core).toArray⟩ ∧ Below w.heap.size w wr)
  case atStart => exact ⟨Nat.le_refl _, rfl, by rw [List.drop_length]; rfl, (Below.refl _ _).drew⟩
  case round =>
    obtain ⟨hm, rfl, rfl, hb⟩ := hrel
    by_cases h0 : 1 ≤ gk
    · obtain ⟨m, rfl⟩ : ∃ m, gk = m + 1 := ⟨gk - 1, by omega⟩
      have hlt : m < ns.length := by omega
      obtain ⟨b, off, rfl, hbl, hc, hn⟩ := hns.at_ hb hlt
      have hst : nest (ns.drop m) core = numRow ns[m] ++ (numRow (nest (ns.drop (m + 1)) core).length ++ nest (ns.drop (m + 1)) core) := by
        rw [List.drop_eq_getElem_cons hlt, nest]
      have hnl := HNL.out (m + 1)
      have hrl := numRow_len ns[m]
      generalize nest (ns.drop (m + 1)) core = t at *
      generalize ns[m] = n at *
      have HS := hid hst
      have hi1 : ((m : Int) + 1 - 1) = (m : Int) := by omega
      clear hst
      go_wp2_with fail
      refine (putNum_nil n _ hn).mono ?_
      rintro e w2 ⟨rfl, hb2⟩
      go_wp2_with fail
      refine (putText_any (numRow n) t _ (by omega) (by omega)).mono ?_
      rintro e w3 ⟨rfl, hb3⟩
      go_wp2_with fail
      go_roundg m
      case measure => omega
      case rel => exact ⟨by omega, int_cast (by omega), by rw [HS.out], below_then (below_then hb hb2) hb3⟩
    · obtain rfl : gk = 0 := by omega
      rw [List.drop_zero]
      have hl0 := HNL.out 0
      rw [List.drop_zero] at hl0
      obtain ⟨W, hW⟩ : ∃ W, W = nest ns core := ⟨_, rfl⟩
      rw [← hW] at hl0 ⊢
      have HW := hid hW
      clear hW
      go_wp2_with fail
      go_loopg [5, 8] ns.length (fun m v5 v8 wr => ∃ i : Nat, m + i = ns.length ∧ v8 = .int .i64 i ∧ v5 = .string ⟨(nest (ns.drop i) core).toArray⟩ ∧ Below w.heap.size w wr)
      case atStart => exact ⟨0, by omega, rfl, by rw [List.drop_zero, HW.out], hb⟩
      case round =>
        clear hb
        obtain ⟨i, hi, rfl, rfl, hb⟩ := hrel
        have HI := hid hi
        by_cases hlt : i < ns.length
        · obtain ⟨b, off, rfl, hbl, hc, hn⟩ := hns.at_ hb hlt
          have hst : nest (ns.drop i) core = numRow ns[i] ++ (numRow (nest (ns.drop (i + 1)) core).length ++ nest (ns.drop (i + 1)) core) := by
            rw [List.drop_eq_getElem_cons hlt, nest]
          rw [hst]
          have hnl := HNL.out (i + 1)
          have hrl := numRow_len ns[i]
          obtain ⟨t, ht⟩ : ∃ t, t = nest (ns.drop (i + 1)) core := ⟨_, rfl⟩
          rw [← ht] at hnl ⊢
          have HT := hid ht
          generalize ns[i] = n at *
          have hrl2 := numRow_len t.length
          obtain ⟨e1, e2, e3⟩ := num_of_row n hn (numRow t.length ++ t)
          obtain ⟨f1, f2, f3⟩ := txt_of_row t [] (by omega)
          rw [List.append_nil] at f1 f2 f3
          have N1 := fun g W hr => num_any g (numRow n ++ (numRow t.length ++ t)) false W hr (by simp; omega)
          rw [e1, e2, e3] at N1
          have T1 := fun g W hr => text_any g (numRow t.length ++ t) false W hr (by simp; omega)
          unfold TxtOk at T1
          rw [f1, f2, f3] at T1
          have HN1 := hid N1
          have HT1 := hid T1
          clear hst ht e1 e2 e3 f1 f2 f3 N1 T1 hi
          go_wp2_with fail
          refine (newReader_any _ _).mono ?_
          rintro e w2 ⟨g, rfl, hg2, hr2, hb2⟩
          have hgw : w.heap.size ≤ g := Nat.le_trans hb.size hg2
          have hc2 : w2.cell? ⟨b, off + i, none⟩ = some (.int .u64 (n : Int)) := by rw [hb2.cell (p := ⟨b, off + i, none⟩) (by have := hb.size; exact Nat.lt_of_lt_of_le hbl this)]; exact hc
          have hbn : b ≠ g := by omega
          have hbl2 : b < w2.heap.size := by have := hb.size; have := hb2.size; omega
          clear hc
          have i0 : (0 : Int) ≤ (i : Int) := by omega
          have i1 : (i : Int) < (ns.length : Int) := by omega
          go_wp2_with fail
          go_region_held3 (fun w' => w'.cell? ⟨b, off + i, none⟩ = some (.int .u64 (n : Int)))
            (first | go_keep | (rw [ho3.cell (p := ⟨b, off + i, none⟩) hbl2 hbn]; exact hc2))
            (first
              | (go_at_call 15; refine (HN1.out g _ (by exact hr2)).mono ?_; rintro e w3 ⟨rfl, hr3, ho3⟩)
              | (go_at_call 19; refine (ok_any g _ _ _ hr3).mono ?_; rintro e w4 ⟨rfl, rfl⟩))
          go_wp2_with fail
          refine (HT1.out g _ hr3).mono ?_
          rintro e w5 ⟨rfl, hr5, ho5⟩
          go_wp2_with fail
          refine (end_any g _ _ _ hr5).mono ?_
          rintro e w6 ⟨rfl, rfl⟩
          go_wp2_with fail
          go_roundg (gk - 1)
          case measure => go_light; have := HI.out; omega
          case rel =>
            go_light
            have := HI.out
            exact ⟨i + 1, by omega, int_cast (by omega), by rw [HT.out], below_only (below_only (below_then hb hb2).drew ho3 hgw) ho5 hgw⟩
        · have hii : i = ns.length := by have := HI.out; omega
          subst hii
          rw [List.drop_length, show nest [] core = core from rfl]
          clear HI hlt hi
          by_cases hz : ns.length = 0
          · have hzb : ((ns.length : Int) == 0) = true := by simp [hz]
            clear hz
            go_wp2_with fail
            refine (works_any _).mono ?_
            rintro e w9 ⟨rfl, hb9⟩
            go_wp2_with fail
            go_ret
            exact ⟨rfl, below_then hb hb9⟩
          · have hzb : ((ns.length : Int) == 0) = false := by rw [beq_eq_false_iff_ne]; omega
            have hpos : 0 < ns.length := by omega
            obtain ⟨b, off, rfl, hbl, hc, hn⟩ := hns.at_ hb hpos
            rw [Nat.add_zero] at hc
            have hst : nest ns core = numRow ns[0] ++ (numRow (nest (ns.drop 1) core).length ++ nest (ns.drop 1) core) := by
              cases ns with
              | nil => simp at hpos
              | cons n0 rest => rfl
            have hnl := HNL.out 1
            have hrl := numRow_len ns[0]
            generalize nest (ns.drop 1) core = t at *
            generalize ns[0] = n at *
            have hrl2 := numRow_len t.length
            have hrp := numRow_pos t.length
            have hWl : 1 ≤ W.length := by rw [HW.out, hst]; simp; omega
            obtain ⟨U, hU⟩ : ∃ U, U = (numRow t.length ++ t).take ((numRow t.length ++ t).length - 1) := ⟨_, rfl⟩
            have hUl : U.length ≤ 1000 := by rw [hU, List.length_take, List.length_append]; omega
            have hcut : W.take (W.length - 1) = numRow n ++ U := by rw [hU, HW.out, hst, nest_cut]
            obtain ⟨e1, e2, e3⟩ := num_of_row n hn U
            obtain ⟨f1, f2⟩ := txt_cut t (by omega)
            rw [← hU] at f1 f2
            have N1 := fun g W hr => num_any g (numRow n ++ U) false W hr (by simp; omega)
            rw [e1, e2, e3] at N1
            have T1 := fun g W hr => text_any g U false W hr (by omega)
            unfold TxtOk at T1
            rw [f1, f2] at T1
            have HN1 := hid N1
            have HT1 := hid T1
            have HC := hid hcut
            clear hst hU hcut e1 e2 e3 f1 f2 N1 T1 hz
            go_wp2_with fail
            rw [HC.out]
            refine (newReader_any _ _).mono ?_
            rintro e w2 ⟨g, rfl, hg2, hr2, hb2⟩
            have hgw : w.heap.size ≤ g := Nat.le_trans hb.size hg2
            have hbl0 : b < wr.heap.size := Nat.lt_of_lt_of_le hbl hb.size
            have hbl2 : b < w2.heap.size := Nat.lt_of_lt_of_le hbl0 hb2.size
            have hc2 : w2.cell? ⟨b, off, none⟩ = some (.int .u64 (n : Int)) := by rw [hb2.cell (p := ⟨b, off, none⟩) hbl0]; exact hc
            have hbn : b ≠ g := by omega
            go_wp2_with fail
            refine (HN1.out g _ hr2).mono ?_
            rintro e w3 ⟨rfl, hr3, ho3⟩
            have hc3 : w3.cell? ⟨b, off, none⟩ = some (.int .u64 (n : Int)) := by rw [ho3.cell (p := ⟨b, off, none⟩) hbl2 hbn]; exact hc2
            go_wp2_with fail
            refine (HT1.out g _ hr3).mono ?_
            rintro e w4 ⟨rfl, hr4, ho4⟩
            have hc4 : w4.cell? ⟨b, off, none⟩ = some (.int .u64 (n : Int)) := by rw [ho4.cell (p := ⟨b, off, none⟩) (Nat.lt_of_lt_of_le hbl2 ho3.size) hbn]; exact hc3
            go_wp2_with fail
            refine (ok_any g _ _ _ hr4).mono ?_
            rintro e w5 ⟨rfl, rfl⟩
            go_wp2_with fail
            refine (end_any g _ _ _ hr4).mono ?_
            rintro e w5 ⟨rfl, rfl⟩
            go_wp2_with fail
            refine (works_any _).mono ?_
            rintro e w5 ⟨rfl, hb5⟩
            go_wp2_with fail
            go_ret
            exact ⟨rfl, below_then (below_only (below_only (below_then hb hb2) ho3 hgw) ho4 hgw) hb5⟩
end Go.Proofs.Ytefgoaokndbbhaa
