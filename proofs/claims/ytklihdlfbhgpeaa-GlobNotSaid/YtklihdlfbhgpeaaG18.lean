/-
  The walks of GlobMatches and GlobPlain.
-/
import Derived.Test.YtklihdlfbhgpeaaG16
import Derived.Test.YtklihdlfbhgpeaaG17
namespace Go.Proofs.Ytklihdlfbhgpeaa
open Go.RowKit
set_option linter.unusedVariables false

theorem bytes_list (s : ByteArray) : s = ⟨s.data.toList.toArray⟩ := by cases s; simp

set_option maxRecDepth 100000 in
set_option maxHeartbeats 2000000 in
theorem globMatches_list (A : Option Addr) (c : Nat) (rs : List RunV) (hn : rs.length ≤ maxLen) (l : List UInt8) (w : World) (hr : Rns w A rs) :
    Calls Try.prog 6 #[.slice A rs.length c, .string ⟨l.toArray⟩] w fun e w' => e = .returned (.bool true) ∧ Below w.heap.size w w' := by
  have HC := hid (cut_any A c rs hn w hr)
  obtain ⟨m, hm⟩ : ∃ m, m = min l.length 12 := ⟨_, rfl⟩
  have hmin : min (l.length : Int) 12 = (m : Int) := by omega
  have hml : (m : Int) ≤ l.length := by omega
  have hm0 : (0 : Int) ≤ (m : Int) := by omega
  have hsl : (l.take m).length ≤ 1000000 := by rw [List.length_take]; omega
  clear hr hm
  go_enter Try.func6, Try.ntmps6
  go_wp2_with fail
  refine HC.out.mono ?_
  rintro e w1 ⟨⟨B, d, rfl, hp⟩, hB1⟩
  have HP := hid hp
  obtain ⟨o, ho⟩ : ∃ o, o = matchP (pieces (chs (cutL rs))) (l.take m) := ⟨_, rfl⟩
  obtain ⟨g, hg⟩ : ∃ g, g = magicL (chs (cutL rs)) := ⟨_, rfl⟩
  have HM1 : Hid (∀ W, Below w1.heap.size w1 W → Calls Try.prog 11 #[.slice B (cutL rs).length d, .string ⟨(l.take m).toArray⟩] W fun e W' => e = .returned (.bool o) ∧ Below W.heap.size W W') := hid fun W hW => by
    rw [ho]; exact match_any' B d (cutL rs) (l.take m) hsl W (HP.out.below hW)
  have HM2 : Hid (∀ W, Below w1.heap.size w1 W → Calls Try.prog 12 #[.slice B (cutL rs).length d, .string ⟨(l.take m).toArray⟩] W fun e W' => e = .returned (.bool o) ∧ Below W.heap.size W W') := hid fun W hW => by
    rw [ho]; exact refMatch_any B d (cutL rs) (l.take m) hsl W (HP.out.below hW)
  have HG1 : Hid (∀ W, Below w1.heap.size w1 W → Calls Try.prog 19 #[.slice B (cutL rs).length d] W fun e W' => e = .returned (.bool g) ∧ Below W.heap.size W W') := hid fun W hW => by
    rw [hg]; exact magic_any B d (cutL rs) W (HP.out.below hW)
  have HG2 : Hid (∀ W, Below w1.heap.size w1 W → Calls Try.prog 20 #[.slice B (cutL rs).length d] W fun e W' => e = .returned (.bool g) ∧ Below W.heap.size W W') := hid fun W hW => by
    rw [hg]; exact refMagic_any B d (cutL rs) W (HP.out.below hW)
  have HP1 : Hid (∀ W, Below w1.heap.size w1 W → Calls Try.prog 21 #[.slice B (cutL rs).length d] W fun e W' => e = .returned (.string ⟨(plainL (cutL rs)).toArray⟩) ∧ Below W.heap.size W W') := hid fun W hW => plain_any B d (cutL rs) W (HP.out.below hW)
  have HP2 : Hid (∀ W, Below w1.heap.size w1 W → Calls Try.prog 22 #[.slice B (cutL rs).length d] W fun e W' => e = .returned (.string ⟨(plainL (cutL rs)).toArray⟩) ∧ Below W.heap.size W W') := hid fun W hW => refPlain_any B d (cutL rs) W (HP.out.below hW)
  clear hp ho hg
  go_wp2_with fail
  refine (HM1.out w1 (Below.refl _ _)).mono ?_
  rintro e w2 ⟨rfl, hb2⟩
  go_wp2_with fail
  refine (HM2.out w2 hb2).mono ?_
  rintro e w3 ⟨rfl, hb3⟩
  have hb3 := hb2.trans (hb3.mono hb2.size)
  go_wp2_with fail
  refine (HG1.out w3 hb3).mono ?_
  rintro e w4 ⟨rfl, hb4⟩
  have hb4 := hb3.trans (hb4.mono hb3.size)
  go_wp2_with fail
  refine (HG2.out w4 hb4).mono ?_
  rintro e w5 ⟨rfl, hb5⟩
  have hb5 := hb4.trans (hb5.mono hb4.size)
  go_wp2_with fail
  refine (HP1.out w5 hb5).mono ?_
  rintro e w6 ⟨rfl, hb6⟩
  have hb6 := hb5.trans (hb6.mono hb5.size)
  go_wp2_with fail
  refine (HP2.out w6 hb6).mono ?_
  rintro e w7 ⟨rfl, hb7⟩
  have hb7 := hb6.trans (hb7.mono hb6.size)
  go_wp2_with fail
  refine (works_any _).mono ?_
  rintro e w8 ⟨rfl, hb8⟩
  have hb8 := hb7.trans (hb8.mono hb7.size)
  go_wp2_with fail
  go_ret
  exact ⟨rfl, hB1.trans (hb8.mono hB1.size)⟩
theorem globMatches_walk (A : Option Addr) (c : Nat) (rs : List RunV) (hn : rs.length ≤ maxLen) (s : ByteArray) (w : World) (hr : Rns w A rs) :
    Calls Try.prog 6 #[.slice A rs.length c, .string s] w fun e w' => e = .returned (.bool true) ∧ Below w.heap.size w w' := by
  rw [bytes_list s]
  exact globMatches_list A c rs hn _ w hr
end Go.Proofs.Ytklihdlfbhgpeaa
