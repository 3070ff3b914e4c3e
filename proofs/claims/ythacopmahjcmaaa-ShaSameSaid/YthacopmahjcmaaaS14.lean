/-
  The walk of ShaSame.
-/
import Derived.Test.YthacopmahjcmaaaS13
import Derived.Test.YthacopmahjcmaaaBuf2
import Derived.Deep.RegionLaw
namespace Go.Proofs.Ythacopmahjcmaaa
open Go.RowKit
set_option linter.unusedVariables false

set_option maxRecDepth 100000 in
set_option maxHeartbeats 1000000 in
theorem shaSame_walk (a0 : ByteArray) (a1 : Int) (w0 : a0.size ≤ maxLen) (w1 : (Lit.int .u16 a1).wf = true) (w : World) :
    Calls Try.prog 5 #[.string a0, .int .u16 a1] w fun e w' => e = .returned (.bool true) ∧ Below w.heap.size w w' := by
  obtain ⟨⟨l⟩⟩ := a0
  obtain ⟨n, rfl, hn⟩ := u16_nat w1
  obtain ⟨i0, hi, hz0, hz1, hz2⟩ := info_parts info5
  clear w1
  go_enter Try.func5, Try.ntmps5
  go_wp2_with fail
  refine (works_any _).mono ?_
  rintro e w1 ⟨rfl, hB1⟩
  go_wp2_with fail
  all_goals
    first
      | (have hL : (5000 : Int) < (l.length : Int) := by assumption
         have hQl : min 5000 l.length = (List.take 5000 l).length := by simp
         have hQ5 : (List.take 5000 l).length ≤ 5000 := by simp; omega
         rw [hQl]
         generalize List.take 5000 l = q at hQ5 ⊢
         clear hQl)
      | (have hQ5 : l.length ≤ 5000 := by omega
         obtain ⟨q, hq⟩ : ∃ q, q = l := ⟨_, rfl⟩
         rw [← hq] at hQ5 ⊢
         clear hq)
    obtain ⟨k, hk1, hk2⟩ : ∃ k : Nat, (n : Int) % ((q.length : Int) + 1) = (k : Int) ∧ k ≤ q.length := ⟨n % (q.length + 1), by simp, by have := Nat.mod_lt n (show 0 < q.length + 1 by omega); omega⟩
    rw [hk1]
    clear hk1
    obtain ⟨c, ob, hcv⟩ := bytes_run (P := Try.prog) 9 27 5 Try.underlying9 Try.underlying27 Try.underlying5 (List.take k q) (by simp; omega)
    have hrun := fun W => (hcv W).1
    have hbuf := fun W => (hcv W).2
    have hsum := fun W => sum_any q (by omega) W
    have hsl := sumL_len q
    have hap : List.take k q ++ List.drop k q = q := List.take_append_drop k q
    have HB := hid hbuf
    have HS := hid hsum
    have HA := hid hap
    have htl : (List.take k q).length = k := by simp; omega
    rw [htl] at hrun
    have HT := hid htl
    have k0 : (0 : Int) ≤ (k : Int) := by omega
    have k1 : (k : Int) ≤ (q.length : Int) := by omega
    clear hcv hbuf hsum hap htl
    have hb1 : Buf (w1.drew.drew.alloc (ob w1.drew)) w1.heap.size 5 (.slice (some ⟨w1.heap.size, 0, none⟩) k (c w1.drew)) (List.take k q) := by
      have := HB.out w1.drew
      rw [HT.out] at this
      exact this
    have HB1 := hid hb1
    clear hb1
    go_region_law ((refine step_append_buf_str (by rfl) _ _ _ _ (by rfl) w1.heap.size 5 i0 Try.underlying27 Try.underlying9 hi hz0 hz1 hz2 (.slice (some ⟨w1.heap.size, 0, none⟩) k (c w1.drew)) (List.take k q) (by rfl) (by exact HB1.out) (List.drop k q) (by rfl) (by simp; omega) ?_; intro v2 w2 hb2 hg2))
    rw [HA.out] at hb2
    have hB2 : Below w.heap.size w w2 := (hB1.alloc hB1.size _).drew.drew.grown hg2 (by have := hB1.size; simp; omega) (fun j hj => by
      have : w1.heap.size = j := by simpa [Value.ownBlock] using hj
      have := hB1.size
      omega)
    obtain ⟨A, cc, rfl, hrd⟩ := hb2.rd (w2.heap.size + 1) (by omega)
    clear hb2 hg2 HB1 HB hrun HT HA
    generalize sumL q = sq at hsl HS
    have hb32 : ((sq.length : Int) == 32) = true := by rw [hsl]; rfl
    clear hsl
    go_frame
    go_wp2_with fail
    refine (HS.out _).mono ?_
    rintro e w3 ⟨rfl, hB3⟩
    have hst := run_string_of (P := Try.prog) w3 27 9 5 Try.underlying27 Try.underlying5 Try.underlying9 (w2.heap.size + 1) A q.length cc q (hrd.below hB3)
    have hb3 : Below w.heap.size w w3 := hB2.trans (hB3.mono hB2.size)
    go_wp2_with fail
    refine (HS.out _).mono ?_
    rintro e w4 ⟨rfl, hB4⟩
    have hb4 : Below w.heap.size w w4 := hb3.trans (hB4.mono hb3.size)
    go_wp2_with fail
    go_ret
    exact ⟨rfl, hb4⟩
end Go.Proofs.Ythacopmahjcmaaa
