import Derived.Test.YtefgoaokndbbhaaW6
import Derived.OpenShut
namespace Go.Proofs.Ytefgoaokndbbhaa
open Go.RowKit
set_option linter.unusedVariables false

def RefTxtOk (g : Nat) (l : List UInt8) (lost : Bool) (w : World) (e : Ending) (w' : World) : Prop :=
  e = .returned (.string ⟨(txtVal l).toArray⟩) ∧ RefRdr w' g (txtRest l) (txtLost l lost) ∧ Only g w w'

set_option maxHeartbeats 400000 in
theorem refText_any (g : Nat) (l : List UInt8) (lost : Bool) (w : World) (hr : RefRdr w g l lost) (hl : l.length ≤ 1048576) :
    Calls Try.prog 18 #[.pointer (some ⟨g, 0, none⟩)] w (RefTxtOk g l lost w) := by
  have hnv := numVal_lt l (rowLen l) (Nat.le_refl _)
  rw [show valF 0 (l.take (rowLen l)) = numVal l from rfl] at hnv
  have hrl := numRest_le l
  obtain ⟨m, hm⟩ : ∃ m, m = numVal l := ⟨_, rfl⟩
  obtain ⟨r, hre⟩ : ∃ r, r = numRest l := ⟨_, rfl⟩
  obtain ⟨lo, hlo⟩ : ∃ lo, lo = numLost l lost := ⟨_, rfl⟩
  have hnum := refNum_any g l lost w hr hl
  rw [← hm] at hnv hnum
  rw [← hre] at hrl hnum
  rw [← hlo] at hnum
  have NUM := hid hnum
  have hT : RefTxtOk g l lost w = fun e w' => e = .returned (.string ⟨(if m ≤ r.length then r.take m else []).toArray⟩) ∧ RefRdr w' g (if m ≤ r.length then r.drop m else []) (if m ≤ r.length then lo else true) ∧ Only g w w' := by
    funext e w'
    unfold RefTxtOk txtVal txtRest txtLost
    rw [← hm, ← hre, ← hlo]
  by_cases h2 : m ≤ r.length
  · simp only [h2, if_true] at hT
    rw [hT]
    clear hT hnum hm hre hlo
    go_enter Try.func18, Try.ntmps18
    go_wp2_with fail
    refine NUM.out.mono ?_
    rintro e w1 ⟨rfl, hr1, ho1⟩
    have c0 := hr1.cell0
    have f0 := At.frozen hr1 0
    go_wp2
    go_ret
    exact ⟨rfl, hr1.left, ho1.set (Or.inl rfl) _⟩
  · simp only [h2, if_false] at hT
    rw [hT]
    clear hT hnum hm hre hlo
    go_enter Try.func18, Try.ntmps18
    go_wp2_with fail
    refine NUM.out.mono ?_
    rintro e w1 ⟨rfl, hr1, ho1⟩
    have c0 := hr1.cell0
    go_wp2_with (go_at_call 25; refine (lose_any g r lo _ hr1).mono ?_; rintro e w2 ⟨rfl, hr2, ho2⟩)
    go_ret
    exact ⟨rfl, hr2, ho1.trans ho2⟩

theorem works_row : numRow 300 ++ (numRow 2 ++ [97, 98]) = [130, 44, 2, 97, 98] := by decide +kernel
theorem works_num : numVal [130, 44, 2, 97, 98] = 300 ∧ numRest [130, 44, 2, 97, 98] = [2, 97, 98] ∧ numLost [130, 44, 2, 97, 98] false = false := by decide +kernel
theorem works_txt : txtVal [2, 97, 98] = [97, 98] ∧ txtRest [2, 97, 98] = [] ∧ txtLost [2, 97, 98] false = false := by decide +kernel

theorem putNum_300 (w : World) : Calls Try.prog 9 #[.string ⟨#[]⟩, .int .u64 300] w fun e w' => e = .returned (.string ⟨#[130, 44]⟩) ∧ Below w.heap.size w w' :=
  putNum_any [] 300 w (by omega) (by simp)
theorem putText_ab (w : World) : Calls Try.prog 11 #[.string ⟨#[130, 44]⟩, .string ⟨#[97, 98]⟩] w fun e w' => e = .returned (.string ⟨#[130, 44, 2, 97, 98]⟩) ∧ Below w.heap.size w w' :=
  putText_any [130, 44] [97, 98] w (by simp) (by simp)
theorem num_works (g : Nat) (w : World) (hr : Rdr w g [130, 44, 2, 97, 98] false) : Calls Try.prog 15 #[.pointer (some ⟨g, 0, none⟩)] w fun e w' => e = .returned (.int .u64 300) ∧ Rdr w' g [2, 97, 98] false ∧ Only g w w' :=
  (num_any g _ _ w hr (by simp)).mono fun e w' ⟨h1, h2, h3⟩ => ⟨h1, h2, h3⟩
theorem text_works (g : Nat) (w : World) (hr : Rdr w g [2, 97, 98] false) : Calls Try.prog 17 #[.pointer (some ⟨g, 0, none⟩)] w fun e w' => e = .returned (.string ⟨#[97, 98]⟩) ∧ Rdr w' g [] false ∧ Only g w w' :=
  (text_any g _ _ w hr (by simp)).mono fun e w' ⟨h1, h2, h3⟩ => ⟨h1, h2, h3⟩

set_option maxHeartbeats 400000 in
theorem works_any (w : World) : Calls Try.prog 13 #[] w fun e w' => e = .returned (.bool true) ∧ Below w.heap.size w w' := by
  go_enter Try.func13, Try.ntmps13
  go_wp2_with fail
  refine (putNum_300 _).mono ?_
  rintro e w1 ⟨rfl, hb1⟩
  go_wp2_with fail
  refine (putText_ab _).mono ?_
  rintro e w2 ⟨rfl, hb2⟩
  go_wp2_with fail
  refine (newReader_any [130, 44, 2, 97, 98] _).mono ?_
  rintro e w3 ⟨g, rfl, hg, hr3, hb3⟩
  go_wp2_with fail
  refine (num_works g _ hr3).mono ?_
  rintro e w4 ⟨rfl, hr4, ho4⟩
  go_wp2_with fail
  refine (text_works g _ hr4).mono ?_
  rintro e w5 ⟨rfl, hr5, ho5⟩
  go_wp2_with fail
  refine (ok_any g _ _ _ hr5).mono ?_
  rintro e w6 ⟨rfl, rfl⟩
  go_wp2_with fail
  refine (end_any g _ _ _ hr5).mono ?_
  rintro e w6 ⟨rfl, rfl⟩
  go_wp2_with fail
  go_ret
  refine ⟨rfl, ?_⟩
  have s1 := hb1.size
  have s2 := hb2.size
  have s3 := hb3.size
  exact ((hb1.trans (hb2.mono s1)).trans (hb3.mono (by omega))).trans ((ho4.below (B := w.heap.size) (by omega) (by omega)).trans (ho5.below (by omega) (by have := ho4.size; omega)))

/-- What a walk is told of a slice of integers that came in: it is nil; or it leads to a row of cap cells, the numbers zs. -/
def IsRow (k : IntKind) (w : World) (a : Option Addr) (len cap : Nat) (zs : List Int) : Prop :=
  (a = none ∧ len = 0 ∧ cap = 0 ∧ zs = []) ∨
  ∃ x, a = some x ∧ len ≤ cap ∧ cap ≤ maxLen ∧ zs.length = cap ∧ (∀ i, i < zs.length → w.cell? (x.add i) = some (.int k (zs.getD i 0))) ∧ ∀ n ∈ zs, (Lit.int k n).wf = true

theorem bytes_eq (a : ByteArray) : ∃ l : List UInt8, a = ⟨l.toArray⟩ := ⟨a.data.toList, by cases a; simp⟩
theorem cut_len (l : List UInt8) (n : Nat) : (l.take (if (n : Int) < (l.length : Int) then (n : Int) else (l.length : Int)).toNat).length ≤ n := by
  rw [List.length_take]
  split <;> omega
theorem u64_nat (a : Int) (h : (Lit.int .u64 a).wf = true) : ∃ n : Nat, a = n ∧ n < 18446744073709551616 := by
  have := bounds_u64 h
  exact ⟨a.toNat, by omega, by omega⟩

set_option maxHeartbeats 400000 in
theorem wireRows_walk (a0 : Int) (a1 : ByteArray) (a2 : ByteArray) (w0 : (Lit.int .u64 a0).wf = true) (w1 : a1.size ≤ maxLen) (w2 : a2.size ≤ maxLen) (w : World) :
    Calls Try.prog 3 #[.int .u64 a0, .string a1, .string a2] w fun e w' => e = .returned (.bool true) ∧ Below w.heap.size w w' := by
  obtain ⟨l, rfl⟩ := bytes_eq a1
  obtain ⟨t, rfl⟩ := bytes_eq a2
  obtain ⟨n, rfl, hn⟩ := u64_nat a0 w0
  go_enter Try.func3, Try.ntmps3
  go_wp2_with fail
  go_region
  have q1 := cut_len l 900
  have q2 := cut_len t 900
  simp only [Int.cast_ofNat_Int] at q1 q2
  generalize List.take _ l = s at *
  generalize List.take _ t = u at *
  generalize (if (900 : Int) < (l.length : Int) then (900 : Int) else (l.length : Int)) = m1
  generalize (if (900 : Int) < (t.length : Int) then (900 : Int) else (t.length : Int)) = m2
  go_wp2_with fail
  refine (putNum_any s n _ hn (by omega)).mono ?_
  rintro e w3 ⟨rfl, hb3⟩
  go_wp2_with fail
  refine (refPutNum_any s n _ hn (by omega)).mono ?_
  rintro e w4 ⟨rfl, hb4⟩
  go_wp2_with fail
  refine (putText_any s u _ (by omega) (by omega)).mono ?_
  rintro e w5 ⟨rfl, hb5⟩
  go_wp2_with fail
  refine (refPutText_any s u _ (by omega) (by omega)).mono ?_
  rintro e w6 ⟨rfl, hb6⟩
  go_wp2_with fail
  refine (works_any _).mono ?_
  rintro e w7 ⟨rfl, hb7⟩
  go_wp2_with fail
  go_ret
  have b3 := below_of_drew hb3
  have s3 := b3.size
  have s4 := hb4.size
  have s5 := hb5.size
  have s6 := hb6.size
  exact ⟨rfl, (((b3.trans (hb4.mono s3)).trans (hb5.mono (by omega))).trans (hb6.mono (by omega))).trans (hb7.mono (by omega))⟩
end Go.Proofs.Ytefgoaokndbbhaa
