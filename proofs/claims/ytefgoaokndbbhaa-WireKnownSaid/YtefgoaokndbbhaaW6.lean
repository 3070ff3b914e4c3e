import Derived.Test.YtefgoaokndbbhaaW5
import Derived.Test.YtefgoaokndbbhaaPlain2
import Derived.Deep.RegionHeld3
namespace Go.Proofs.Ytefgoaokndbbhaa
open Go.RowKit
set_option linter.unusedVariables false

theorem run_index_str {P : Program} (t : TypeId) (ht : P.underlying t = some .string) (l : List UInt8) (i : Nat) (h : i < l.length) (x : Nat) (hx : x = l[i].toNat) (k : IntKind) (w : World) :
    (Instr.index t (.string ⟨l.toArray⟩) (.int k (i : Int))).run P w = .ok (.int .u8 (x : Int)) w := by
  rw [run_index_string (P := P) w t ⟨l.toArray⟩ k i ht, dif_pos ⟨by omega, by simp [ByteArray.size]; omega⟩, hx]
  rfl

/-- Block g is the reference's reader. -/
def RefRdr (w : World) (g : Nat) (l : List UInt8) (lost : Bool) : Prop := At w g 32 #[.string ⟨l.toArray⟩, .bool lost]
theorem RefRdr.below {w w' : World} {g : Nat} {l : List UInt8} {lost : Bool} (r : RefRdr w g l lost) (ho : Below w.heap.size w w') : RefRdr w' g l lost := At.below r ho r.lt
theorem RefRdr.cell0 {w : World} {g : Nat} {l : List UInt8} {lost : Bool} (r : RefRdr w g l lost) : w.cell? ⟨g, 0, none⟩ = some (.string ⟨l.toArray⟩) := by rw [At.cell r]; rfl
theorem RefRdr.cell1 {w : World} {g : Nat} {l : List UInt8} {lost : Bool} (r : RefRdr w g l lost) : w.cell? ⟨g, 1, none⟩ = some (.bool lost) := by rw [At.cell r]; rfl
theorem RefRdr.left {w : World} {g : Nat} {l k : List UInt8} {lost : Bool} (r : RefRdr w g l lost) : RefRdr (w.setCell ⟨g, 0, none⟩ (.string ⟨k.toArray⟩)) g k lost := At.set r 0 _

set_option maxHeartbeats 400000 in
theorem lose_any (g : Nat) (l : List UInt8) (lost : Bool) (w : World) (hr : RefRdr w g l lost) :
    Calls Try.prog 25 #[.pointer (some ⟨g, 0, none⟩)] w fun e w' => e = .returned (.tuple #[]) ∧ RefRdr w' g [] true ∧ Only g w w' := by
  have h0 := hr.cell0
  have h1 := hr.cell1
  have f0 := At.frozen hr 0
  have f1 := At.frozen hr 1
  go_enter Try.func25, Try.ntmps25
  go_wp2
  go_end0
  exact ⟨rfl, At.set (At.set hr 0 _) 1 _, ((Only.refl g w).set (Or.inl rfl) _).set (Or.inl rfl) _⟩

set_option maxHeartbeats 400000 in
theorem refOk_any (g : Nat) (l : List UInt8) (lost : Bool) (w : World) (hr : RefRdr w g l lost) :
    Calls Try.prog 20 #[.pointer (some ⟨g, 0, none⟩)] w fun e w' => e = .returned (.bool !lost) ∧ w = w' := by
  have h1 := hr.cell1
  go_enter Try.func20, Try.ntmps20
  go_wp2
  go_ret
  exact ⟨rfl, rfl⟩

set_option maxHeartbeats 400000 in
theorem refEnd_any (g : Nat) (l : List UInt8) (lost : Bool) (w : World) (hr : RefRdr w g l lost) :
    Calls Try.prog 22 #[.pointer (some ⟨g, 0, none⟩)] w fun e w' => e = .returned (.bool (!lost && l.isEmpty)) ∧ w = w' := by
  have h0 := hr.cell0
  have h1 := hr.cell1
  cases lost
  · go_enter Try.func22, Try.ntmps22
    go_wp2
    go_ret
    exact ⟨rfl, rfl⟩
  · go_enter Try.func22, Try.ntmps22
    go_wp2
    go_ret
    exact ⟨rfl, rfl⟩

theorem below_of_drew {w w1 : World} (h : Below w.drew.heap.size w.drew w1) : Below w.heap.size w w1 := ⟨h.os, h.tape, h.output, h.size, h.block⟩
theorem refPutNum_nil (n : Nat) (w : World) (hn : n < 18446744073709551616) :
    Calls Try.prog 10 #[.string ⟨#[]⟩, .int .u64 n] w fun e w' => e = .returned (.string ⟨(numRow n).toArray⟩) ∧ Below w.heap.size w w' :=
  refPutNum_any [] n w hn (by simp)
theorem wrap_two (z y : Nat) : IntKind.u64.wrap (IntKind.u64.wrap (128 * (z : Int)) + (y : Int) % 128) = (((128 * z + y % 128) % 18446744073709551616 : Nat) : Int) := by
  rw [IntKind.wrap_u64, IntKind.wrap_u64]
  omega
set_option maxRecDepth 100000 in
set_option maxHeartbeats 1000000 in
theorem refNum_any (g : Nat) (l : List UInt8) (lost : Bool) (w : World) (hr : RefRdr w g l lost) (hl : l.length ≤ 1048576) :
    Calls Try.prog 16 #[.pointer (some ⟨g, 0, none⟩)] w fun e w' => e = .returned (.int .u64 (numVal l)) ∧ RefRdr w' g (numRest l) (numLost l lost) ∧ Only g w w' := by
  have h0 := hr.cell0
  go_enter Try.func16, Try.ntmps16
  go_wp2
  go_loopg [3] l.length (fun m v3 wr => ∃ i : Nat, m + i = l.length ∧ v3 = .int .i64 i ∧ hiCount (l.drop i) + i = hiCount l ∧ w = wr)
  case atStart => exact ⟨0, by omega, rfl, by simp, rfl⟩
  case round =>
    obtain ⟨i, hi, rfl, hc, rfl⟩ := hrel
    by_cases hlt : i < l.length
    · obtain ⟨s1, s2⟩ := hiCount_step l i hc hlt
      obtain ⟨x, hx⟩ : ∃ x, x = l[i].toNat := ⟨_, rfl⟩
      rw [← hx] at s1 s2
      have hix := fun W => run_index_str (P := Try.prog) 9 Try.underlying9 l i hlt x hx .i64 W
      by_cases hge : 128 ≤ x
      · have HS := hid (s1 hge)
        have HI := hid hi
        have hb : decide ((i : Int) < (l.length : Int)) = true := by simp; omega
        clear s1 s2 hx hi hc
        go_wp2
        go_roundg (gk - 1)
        case measure => go_light; have := HI.out; omega
        case rel =>
          go_light
          have := HI.out
          exact ⟨i + 1, by omega, int_cast (by omega), HS.out, rfl⟩
      · have hk : hiCount l = i := s2 hge
        by_cases h9 : 9 < i
        · have hz := ref_none l (by omega)
          have HV : Hid (numVal l = 0) := by simp [Hid, numVal, hz, valF]
          have HR : Hid (numRest l = [] ∧ numLost l lost = true) := by simp [Hid, numRest, numLost, hz]
          clear s1 s2 hx hi hc hk hz
          go_wp2_with (go_at_call 25; refine (lose_any g l lost _ hr).mono ?_; rintro e w1 ⟨rfl, hr1, ho1⟩)
          go_ret
          refine ⟨ret_int (by rw [HV.out]; rfl), ?_, ho1⟩
          rw [HR.out.1, HR.out.2]
          exact hr1
        · have HK := hid hk
          clear s1 s2 hx hi hc hk
          go_wp2_with fail
          go_loopg [4, 5] (i + 1) (fun m v4 v5 wr => ∃ j : Nat, m + j = i + 1 ∧ v5 = .int .i64 j ∧ v4 = .int .u64 (valF 0 (l.take j) % 18446744073709551616 : Nat) ∧ w = wr)
          case atStart => exact ⟨0, by omega, rfl, rfl, rfl⟩
          case round =>
            obtain ⟨j, hj, rfl, rfl, rfl⟩ := hrel
            have hzl : valF 0 (l.take j) % 18446744073709551616 < 18446744073709551616 := Nat.mod_lt _ (by decide)
            by_cases hji : j ≤ i
            · obtain ⟨y, hy⟩ : ∃ y, y = l[j].toNat := ⟨_, rfl⟩
              have hjx := fun W => run_index_str (P := Try.prog) 9 Try.underlying9 l j (by omega) y hy .i64 W
              have hs := valF_snoc l j (by omega)
              rw [← hy] at hs
              have hyl : y < 256 := by rw [hy]; exact l[j].toNat_lt
              have hs2 : Hid (valF 0 (l.take (j + 1)) % 18446744073709551616 = (128 * (valF 0 (l.take j) % 18446744073709551616) + y % 128) % 18446744073709551616) := by
                rw [Hid, hs]
                omega
              generalize valF 0 (l.take j) % 18446744073709551616 = z at *
              have HJ := hid hj
              clear hs hy hj hix
              go_wp2
              go_roundg (gk - 1)
              case measure => go_light; have := HJ.out; omega
              case rel =>
                go_light
                have := HJ.out
                refine ⟨j + 1, by omega, int_cast (by omega), int_cast ?_, rfl⟩
                rw [hs2.out]
                exact wrap_two z y
            · obtain rfl : j = i + 1 := by omega
              have HV : Hid (valF 0 (l.take (i + 1)) % 18446744073709551616 = refVal l) := by rw [Hid, refVal, HK.out]
              rw [HV.out]
              rw [HV.out] at hzl
              clear hix hj
              have hi1 : (0 : Int) ≤ (i : Int) + 1 := by omega
              have hi2 : (i : Int) + 1 ≤ (l.length : Int) := by omega
              have hi3 : ((i : Int) + 1).toNat = i + 1 := by omega
              have hgl := At.lt hr
              by_cases heq : numRow (refVal l) = l.take (i + 1)
              · have heb : (numRow (refVal l) == l.take (i + 1)) = true := by rw [heq]; simp
                obtain ⟨q1, q2⟩ := ref_same l (by rw [HK.out]; omega) (by rw [HK.out]; exact heq)
                have HN : Hid (numVal l = refVal l ∧ numRest l = l.drop (i + 1) ∧ numLost l lost = lost) := by
                  rw [HK.out] at q1
                  simp [Hid, q2, numRest, numLost, q1]
                clear heq q1 q2
                go_wp2_with fail
                have hwr : IntKind.i64.wrap ((i : Int) + 1) = (i : Int) + 1 := IntWalk.i64_in _ (by omega)
                go_region_held3 (fun w' => w'.cell? ⟨g, 0, none⟩ = some (.string ⟨l.toArray⟩)) (first | go_keep | (rw [hb1.cell (p := ⟨g, 0, none⟩) hgl]; exact h0))
                  (first | (go_at_call 10; refine (refPutNum_nil (refVal l) _ hzl).mono ?_; rintro e w1 ⟨rfl, hb1⟩))
                replace hb1 := below_of_drew hb1
                have hr1 : RefRdr w1 g l lost := hr.below hb1
                have ho1 : Only g w w1 := Only.of_below hb1 g
                have c0 := hr1.cell0
                have f0 := At.frozen hr1 0
                clear h0
                go_wp2
                go_ret
                refine ⟨ret_int (by rw [HN.out.1]), ?_, ho1.set (Or.inl rfl) _⟩
                rw [HN.out.2.1, HN.out.2.2]
                exact hr1.left
              · have heb : (numRow (refVal l) == l.take (i + 1)) = false := by simp [heq]
                have hz := ref_other l (by rw [HK.out]; exact heq)
                have HV : Hid (numVal l = 0) := by simp [Hid, numVal, hz, valF]
                have HR : Hid (numRest l = [] ∧ numLost l lost = true) := by simp [Hid, numRest, numLost, hz]
                clear heq hz
                go_wp2_with fail
                have hwr : IntKind.i64.wrap ((i : Int) + 1) = (i : Int) + 1 := IntWalk.i64_in _ (by omega)
                go_region_held3 (fun w' => w'.cell? ⟨g, 0, none⟩ = some (.string ⟨l.toArray⟩)) (first | go_keep | (rw [hb1.cell (p := ⟨g, 0, none⟩) hgl]; exact h0))
                  (first | (go_at_call 10; refine (refPutNum_nil (refVal l) _ hzl).mono ?_; rintro e w1 ⟨rfl, hb1⟩))
                replace hb1 := below_of_drew hb1
                have hr1 : RefRdr w1 g l lost := hr.below hb1
                have ho1 : Only g w w1 := Only.of_below hb1 g
                go_wp2_with (go_at_call 25; refine (lose_any g l lost _ hr1).mono ?_; rintro e w2 ⟨rfl, hr2, ho2⟩)
                go_ret
                refine ⟨ret_int (by rw [HV.out]; rfl), ?_, ho1.trans ho2⟩
                rw [HR.out.1, HR.out.2]
                exact hr2
    · have hk : hiCount l = l.length := by
        have := hiCount_le (l.drop i)
        rw [List.length_drop] at this
        omega
      have hz := ref_none l (by omega)
      have HV : Hid (numVal l = 0) := by simp [Hid, numVal, hz, valF]
      have HR : Hid (numRest l = [] ∧ numLost l lost = true) := by simp [Hid, numRest, numLost, hz]
      have hge : decide (l.length ≤ i) = true := by simp; omega
      clear hi hc hk hz
      go_wp2_with (go_at_call 25; refine (lose_any g l lost _ hr).mono ?_; rintro e w1 ⟨rfl, hr1, ho1⟩)
      go_ret
      refine ⟨ret_int (by rw [HV.out]; rfl), ?_, ho1⟩
      rw [HR.out.1, HR.out.2]
      exact hr1
end Go.Proofs.Ytefgoaokndbbhaa
