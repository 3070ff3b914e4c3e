import Derived.Test.YtefgoaokndbbhaaRows
import Derived.Test.YtefgoaokndbbhaaPlain
import Derived.Maps.RangeWalk
namespace Go.Proofs.Ytefgoaokndbbhaa
open Go.RowKit

theorem info5 : (Try.prog.info? 5).map (fun i => (i.zero, i.size, i.bytes)) = some (some (.int .u8 0), 1, 1) := by kernel_rfl

def PN (w : World) (n : Nat) (v1 v6 : Value) (wr : World) : Prop :=
  ∃ (a m : Nat) (cs : Array Value) (suf : List UInt8), a ≤ 9 ∧ m < 128 ^ a ∧ v6 = .int .i64 a ∧ v1 = .int .u64 m ∧ cs.size = 10 ∧ At wr w.heap.size 43 cs ∧
    cs.toList.drop a = bv suf ∧ hiF a m ++ suf = numRow n ∧ Below w.heap.size w wr

theorem PN_step {w wr : World} {n a m : Nat} {cs : Array Value} {suf : List UInt8} (ha : a ≤ 9) (ha1 : 1 ≤ a) (hm : m < 128 ^ a) (h0 : 0 < m) (hcs : cs.size = 10) (hh : At wr w.heap.size 43 cs)
    (hd : cs.toList.drop a = bv suf) (hr : hiF a m ++ suf = numRow n) (hb : Below w.heap.size w wr) :
    PN w n (.int .u64 ((m : Int) / 128)) (.int .i64 ((a : Int) - 1)) (wr.setCell ⟨w.heap.size, a - 1, none⟩ (.int .u8 ((m : Int) % 128 + 128))) := by
  obtain ⟨b, rfl⟩ : ∃ b, a = b + 1 := ⟨a - 1, by omega⟩
  refine ⟨b, m / 128, cs.setIfInBounds b (.int .u8 ((m : Int) % 128 + 128)), hiB m :: suf, by omega, ?_, by simp, by simp, by simpa using hcs, hh.set b _, ?_, ?_, hb.setCell (Nat.le_refl _) _⟩
  · rw [Nat.pow_succ] at hm
    omega
  · have hlt : b < cs.toList.length := by simp; omega
    rw [Array.toList_setIfInBounds, List.drop_eq_getElem_cons (by simpa using hlt), bv_cons, u8_hi]
    simp only [List.getElem_set_self, List.drop_set, Nat.lt_add_one, if_true, hd]
    simp
  · rw [← hr, hiF, if_neg (by omega)]
    simp

theorem splice_two (l suf : List UInt8) (d : Nat) (hd : (bv suf).length = d) :
    splice (splice (List.replicate (l.length + d) (Value.int .u8 0)) 0 (bv l)) l.length (bv suf) = bv (l ++ suf) := by
  have e1 : splice (List.replicate (l.length + d) (Value.int .u8 0)) 0 (bv l) = bv l ++ List.replicate d (Value.int .u8 0) := by
    simp [splice, bv_length, List.drop_replicate]
  rw [e1, bv_append]
  unfold splice
  rw [hd, List.take_append_of_le_length (by rw [bv_length]; omega), List.take_of_length_le (by rw [bv_length]; omega), List.drop_of_length_le (by simp [bv_length])]
  simp
set_option maxHeartbeats 400000 in
theorem putNum_any (l : List UInt8) (n : Nat) (w : World) (hn : n < 18446744073709551616) (hl : l.length ≤ 1048576) :
    Calls Try.prog 9 #[.string ⟨l.toArray⟩, .int .u64 n] w fun e w' => e = .returned (.string ⟨(l ++ numRow n).toArray⟩) ∧ Below w.heap.size w w' := by
  obtain ⟨i0, hi, hz0, hz1, hz2⟩ := info_parts info5
  have hsz : (Try.prog.info? 5).map (·.size) = some 1 := by rw [hi]; simp [hz1]
  go_enter Try.func9, Try.ntmps9
  go_wp2
  go_loopw [1, 6] (fun v1 v6 wr => PN w n v1 v6 wr) (fun v1 _ _ => (intOf v1).toNat)
  case atStart =>
    refine ⟨9, n / 128, _, [loB n], by omega, by simp; omega, rfl, by simp, rfl, At.new _ _ _, ?_, rfl, (Below.refl _ _).alloc (Nat.le_refl _) _⟩
    rw [bv_cons, u8_lo, bv_nil]
    simp
  case round =>
    obtain ⟨a, m, cs, suf, ha, hm, rfl, rfl, hcs, hh, hd, hr, hb⟩ := hrel
    have hmb : m < 9223372036854775808 := Nat.lt_of_lt_of_le hm (Nat.le_trans (Nat.pow_le_pow_right (by omega) ha) (by decide))
    by_cases h0 : m = 0
    · subst h0
      obtain ⟨d, hd1, hd2⟩ : ∃ d, a + d ≤ 10 ∧ 10 ≤ a + d := ⟨10 - a, by omega, by omega⟩
      have hlen : (bv suf).length = d := by rw [← hd]; simp [hcs]; omega
      rw [hiF_zero, List.nil_append] at hr
      subst hr
      have HD := hid hd
      have HC := hid hcs
      have HL := hid hlen
      have g1 : (l.length : Int) ≤ (l.length : Int) + (d : Int) := by omega
      have g2 : ¬ d = 0 := by omega
      have g3 : (a : Int) ≤ 10 := by omega
      have g4 : ¬ 10 = a := by omega
      clear hm hmb hd hcs hlen
      go_wp2_with (first
        | (refine wpList_make_bytes rfl (.tmp 31) 27 rfl 5 i0 Try.underlying27 hi hz0 hz1 hz2 _ (l.length + d) rfl (by omega) (by omega) ?_; intro w1 hA1 hB1 hs1)
        | (refine wpList_copy_str rfl (.tmp 33) (.tmp 34) 27 9 rfl 5 Try.underlying27 hsz wr.heap.size 0 _ _ l rfl rfl _ 5 hA1 (by omega) (by simp) wr.heap.size wr hB1 (Nat.le_refl _) ?_; intro w2 hA2 hB2 hO2 hs2))
      go_frame
      have hw2 : At w2.drew wr.heap.size 5 (splice (List.replicate (l.length + d) (Value.int .u8 0)) 0 (bv l)).toArray := hA2
      have hb2 : Below w.heap.size w w2.drew := (hb.trans (hB2.mono hb.size)).drew
      have hn2 : (bv (numRow n)).length = Nat.min (10 - a) d := by rw [HL.out]; simp [Nat.min_def]; omega
      have hfit : l.length + (bv (numRow n)).length ≤ (splice (List.replicate (l.length + d) (Value.int .u8 0)) 0 (bv l)).length := by
        rw [length_splice _ _ _ (by simp [bv_length]), HL.out]; simp
      have hcell : ∀ j v, (bv (numRow n))[j]? = some v → w2.drew.cell? ((⟨w.heap.size, a, none⟩ : Addr).add j) = some v := by
        intro j v hj
        have e : (⟨w.heap.size, a, none⟩ : Addr).add j = ⟨w.heap.size, a + j, none⟩ := by unfold Addr.add; split <;> simp_all
        have h2 : At w2.drew w.heap.size 43 cs := (hh.below hB2 hh.lt).drew
        rw [e, h2.cell, ← HD.out, List.getElem?_drop] at *
        simpa using hj
      have HN2 := hid hn2
      have HF := hid hfit
      have HE := hid hcell
      clear hn2 hfit hcell
      go_region_law (refine step_copy_splice rfl (.tmp 39) (.tmp 41) 27 27 rfl 5 Try.underlying27 hsz (some ⟨wr.heap.size, l.length, none⟩) (some ⟨w.heap.size, a, none⟩) d d (10 - a) (10 - a) (by simp [Act.eval, Act.put]) (by simp [Act.eval, Act.put]) wr.heap.size l.length _ 5 hw2 (bv (numRow n)) HN2.out (fun _ => ⟨rfl, _, rfl, HE.out⟩) HF.out (bv_one _) w.heap.size w hb2 hb.size ?_; intro w3 hA3 hB3)
      have hrd : Rd w3 w.heap.size (some ⟨wr.heap.size, 0, none⟩) (l.length + d) (bv (l ++ (numRow n))) := by
        have hlt := hh.lt
        refine Rd.of_at (t := 5) (show At w3 wr.heap.size 5 _ from hA3.out) (by omega) ?_ (by rw [bv_append, List.length_append, HL.out, bv_length])
        rw [List.toList_toArray]
        exact splice_two l (numRow n) d HL.out
      clear hw2 hb2 HF HE HN2 hA1 hA2 hA3
      go_wp2_with (refine wpList_string_of rfl (.tmp 43) 27 9 5 rfl Try.underlying27 Try.underlying5 Try.underlying9 w.heap.size _ _ _ rfl (l ++ (numRow n)) hrd ?_)
      go_ret
      exact ⟨rfl, hB3⟩
    · have ha1 : 1 ≤ a := by
        rcases Nat.eq_zero_or_pos a with h | h
        · subst h; simp at hm; omega
        · exact h
      have hmp : 0 < m := by omega
      have hc : ∃ v, wr.cell? ⟨w.heap.size, a - 1, none⟩ = some v := by
        rw [hh.cell]
        exact ⟨_, Array.getElem?_eq_getElem (by rw [hcs]; omega)⟩
      obtain ⟨v, hc⟩ := hc
      have hf := hh.frozen (a - 1)
      have HN := hid (PN_step (n := n) ha ha1 hm hmp hcs hh hd hr hb)
      clear hm hcs hd hr
      go_wp2
      go_roundw
      case rel => exact HN.out
      case measure => simp [intOf]; omega
end Go.Proofs.Ytefgoaokndbbhaa
