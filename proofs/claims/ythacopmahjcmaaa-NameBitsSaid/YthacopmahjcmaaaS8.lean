/-
  The walk of the reference's padded.
-/
import Derived.Test.YthacopmahjcmaaaPlainC
import Derived.Test.YthacopmahjcmaaaS7
namespace Go.Proofs.Ythacopmahjcmaaa
open Go.RowKit
set_option linter.unusedVariables false

theorem byte_shr (n k : Nat) (hn : n ≤ 1000000) (hk : k ≤ 7) : IntKind.u8.wrap (((n : Int) * 8) / 2 ^ (8 * (7 - k))) = ((lenB n k).toNat : Int) := by
  have e : ((n : Int) * 8) / 2 ^ (8 * (7 - k)) = ((n * 8 / 2 ^ (8 * (7 - k)) : Nat) : Int) := by
    rw [Int.natCast_ediv]
    simp
  rw [e, lenB, UInt8.toNat_ofNat', IntKind.wrap_u8']
  omega

set_option maxRecDepth 100000 in
set_option maxHeartbeats 1000000 in
theorem padded_any (l : List UInt8) (hl : l.length ≤ 1000000) (w : World) :
    Calls Try.prog 34 #[.string ⟨l.toArray⟩] w fun e w' => e = .returned (.string ⟨(padL l).toArray⟩) ∧ Below w.heap.size w w' := by
  have hpz : padZ l.length < 64 := by unfold padZ; omega
  have hlb : (l.length : Int) ≤ 1000000 := by omega
  go_enter Try.func34, Try.ntmps34
  go_wp2_with fail
  rw [show l ++ [128] = padTo l 0 from rfl]
  go_loopg [0] (padZ l.length) (fun m v0 wr => ∃ z : Nat, m + z = padZ l.length ∧ v0 = .string ⟨(padTo l z).toArray⟩ ∧ w = wr)
  case atStart => exact ⟨0, rfl, rfl, rfl⟩
  case round =>
    obtain ⟨z, hz, rfl, rfl⟩ := hrel
    have HZ := hid hz
    have hif := padZ_iff l.length z (by omega)
    have hln := padTo_len l z
    have hsu := padTo_succ l z
    by_cases hlt : z = padZ l.length
    · have hb : (((padTo l z).length : Int) % 64 != 56) = false := by
        have := hif.2 hlt
        rw [hln]
        simp
        omega
      have hk0 : padTo l z = padK l 0 := by rw [hlt]; simp [padK, lenBs]
      have hlb2 : ((padTo l z).length : Int) ≤ 1000100 := by omega
      have HK0 := hid hk0
      clear hif hln hsu hz hlt HZ hk0
      go_wp2_with fail
      rw [HK0.out]
      clear hb hlb2 HK0
      go_loopg [0, 4] 8 (fun m v0 v4 wr => ∃ k : Nat, m + k = 8 ∧ v0 = .string ⟨(padK l k).toArray⟩ ∧ v4 = .int .i64 (7 - (k : Int)) ∧ Below w.heap.size w wr)
      case atStart => exact ⟨0, rfl, rfl, rfl, Below.refl _ _⟩
      case round =>
        obtain ⟨k, hk, rfl, rfl, hB⟩ := hrel
        have HK := hid hk
        have hkl := padK_len l k
        by_cases hlt : k < 8
        · have hs1 : (0 : Int) ≤ 7 - (k : Int) := by omega
          have hs2 := byte_shr l.length k hl (by omega)
          have hw8 : (8 * (7 - (k : Int))).toNat = 8 * (7 - k) := by omega
          have hn8 : (0 : Int) ≤ 8 * (7 - (k : Int)) := by omega
          have hlb2 : (padK l k).length ≤ 1000100 := by omega
          have hsc := padK_succ l k
          have HS := hid hsc
          have hd : decide ((k : Int) ≤ 7) = true := by simp; omega
          generalize hX : lenB l.length k = x at hs2 HS
          have hr : Rd (wr.alloc (Obj.cells #[Value.int IntKind.u8 (x.toNat : Int)] 5)) (wr.heap.size + 1) (some ⟨wr.heap.size, 0, none⟩) 1 (bv [x]) := Rd.of_at (At.new _ _ _) (by omega) rfl rfl
          clear hsc hkl hk hX
          go_wp2_with (refine wpList_string_of rfl (.tmp 27) 27 9 5 rfl Try.underlying27 Try.underlying5 Try.underlying9 (wr.heap.size + 1) _ 1 1 rfl [x] hr ?_)
          rw [HS.out]
          go_roundg (gk - 1)
          case measure => go_light; have := HK.out; omega
          case rel =>
            go_light
            have := HK.out
            exact ⟨k + 1, by omega, rfl, int_cast (by omega), hB.alloc hB.size _⟩
        · obtain rfl : k = 8 := by omega
          have hd : decide (((8 : Nat) : Int) ≤ 7) = false := by decide
          clear hk hkl HK hlt
          go_wp2_with fail
          go_ret
          exact ⟨rfl, hB⟩
    · have hb : (((padTo l z).length : Int) % 64 != 56) = true := by
        have : ¬ (l.length + 1 + z) % 64 = 56 := fun h => hlt (hif.1 h)
        rw [hln]
        simp
        omega
      have hlb2 : ((padTo l z).length : Int) ≤ 1000100 := by omega
      have HS := hid hsu
      clear hif hln hsu hz
      go_wp2_with fail
      rw [HS.out]
      go_roundg (gk - 1)
      case measure => go_light; have := HZ.out; omega
      case rel =>
        go_light
        have := HZ.out
        exact ⟨z + 1, by omega, rfl, rfl⟩
end Go.Proofs.Ythacopmahjcmaaa
