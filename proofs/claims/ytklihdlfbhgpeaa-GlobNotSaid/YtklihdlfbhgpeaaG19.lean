/-
  The walk of GlobBytes.
-/
import Derived.Test.YtklihdlfbhgpeaaG18
namespace Go.Proofs.Ytklihdlfbhgpeaa
open Go.RowKit
set_option linter.unusedVariables false

/-- A byte as a number. -/
theorem byteOf (b : Nat) (hb : b < 256) : ((UInt8.ofNat b).toNat : Int) = (b : Int) := by
  have : (UInt8.ofNat b).toNat = b := by simp [UInt8.toNat_ofNat']; omega
  rw [this]
theorem rd_one (w : World) (x : UInt8) : Rd (w.alloc (.cells #[.int .u8 (x.toNat : Int)] 5)) (w.heap.size + 1) (some ⟨w.heap.size, 0, none⟩) 1 (bv [x]) :=
  Rd.of_at (At.new w 5 _) (by omega) rfl rfl

set_option maxRecDepth 100000 in
set_option maxHeartbeats 2000000 in
theorem globBytes_walk (A : Option Addr) (c : Nat) (rs : List RunV) (hn : rs.length ≤ maxLen) (w : World) (hr : Rns w A rs) :
    Calls Try.prog 3 #[.slice A rs.length c] w fun e w' => e = .returned (.bool true) ∧ Below w.heap.size w w' := by
  have HC := hid (cut_any A c rs hn w hr)
  clear hr
  go_enter Try.func3, Try.ntmps3
  go_wp2_with fail
  refine HC.out.mono ?_
  rintro e w1 ⟨⟨B, d, rfl, hp⟩, hB1⟩
  have HP := hid hp
  clear hp
  go_wp2_with fail
  go_loopg [3] 256 (fun m v3 wr => ∃ b : Nat, m + b = 256 ∧ v3 = .int .i64 b ∧ Below w1.heap.size w1 wr)
  case atStart => exact ⟨0, rfl, rfl, Below.refl _ _⟩
  case round =>
    obtain ⟨b, hm, rfl, hB⟩ := hrel
    have HM := hid hm
    clear hm
    by_cases hlt : b < 256
    · have hbI : (b : Int) < 256 := by omega
      have hb0 : (0 : Int) ≤ (b : Int) := by omega
      have hbe := byteOf b hlt
      have hwb : IntKind.u8.wrap (b : Int) = ((UInt8.ofNat b).toNat : Int) := by rw [hbe, IntKind.wrap_u8]; omega
      obtain ⟨x, hx⟩ : ∃ x, x = UInt8.ofNat b := ⟨_, rfl⟩
      rw [← hx] at hbe hwb
      have hbx : (b : Int) = (x.toNat : Int) := hbe.symm
      have HBX := hid hbx
      clear hbe hx hbx
      have hrd := rd_one wr x
      have HRD := hid hrd
      clear hrd
      go_wp2_with (refine wpList_string_of rfl (.tmp 13) 24 9 5 rfl Try.underlying24 Try.underlying5 Try.underlying9 (wr.heap.size + 1) _ 1 1 rfl [x] HRD.out ?_)
      have hB2 : Below w1.heap.size w1 (wr.alloc (.cells #[.int .u8 (x.toNat : Int)] 5)) := hB.alloc hB.size _
      obtain ⟨o, ho⟩ : ∃ o, o = matchP (pieces (chs (cutL rs))) [x] := ⟨_, rfl⟩
      have h1 := match_any' B d (cutL rs) [x] (by simp) _ (HP.out.below hB2)
      have h2 := fun W hW => refMatch_any B d (cutL rs) [x] (by simp) W (HP.out.below hW)
      rw [← ho] at h1 h2
      have H2 := hid h2
      clear ho h2
      refine h1.mono ?_
      rintro e w2 ⟨rfl, hb2⟩
      have hB3 := hB2.trans (hb2.mono hB2.size)
      clear h1 hb2 hB2
      go_wp2_with fail
      refine (H2.out _ hB3).mono ?_
      rintro e w3 ⟨rfl, hb3⟩
      have hB4 := hB3.trans (hb3.mono hB3.size)
      clear H2 hb3 hB3
      go_wp2_with fail
      go_roundg (gk - 1)
      case measure => go_light; have := HM.out; omega
      case rel =>
        go_light
        have := HM.out
        exact ⟨b + 1, by omega, int_cast (by omega), hB4⟩
    · have := HM.out
      obtain rfl : b = 256 := by omega
      rw [show ((256 : Nat) : Int) = 256 from rfl]
      clear this hlt
      go_wp2_with fail
      refine (works_any _).mono ?_
      rintro e w8 ⟨rfl, hb8⟩
      have hB9 := hB1.trans ((hB.trans (hb8.mono hB.size)).mono hB1.size)
      go_wp2_with fail
      go_ret
      exact ⟨rfl, hB9⟩
end Go.Proofs.Ytklihdlfbhgpeaa
