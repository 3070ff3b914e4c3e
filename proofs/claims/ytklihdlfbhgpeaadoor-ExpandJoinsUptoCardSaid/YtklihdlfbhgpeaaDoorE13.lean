/-
  The walk of isName: which names a variable may have.
-/
import Derived.Test.YtklihdlfbhgpeaaDoorE12
import Derived.Lib.DecodeN
namespace Go.Proofs.YtklihdlfbhgpeaaDoor
open Go.RowKit
set_option linter.unusedVariables false

def badR (x : Nat) : Bool := decide (¬ x = 95 ∧ (x < 97 ∨ 122 < x) ∧ (x < 65 ∨ 90 < x) ∧ (x < 48 ∨ 57 < x))
theorem badR_high {x : Nat} (h : 128 ≤ x) : badR x = true := by simp only [badR, decide_eq_true_eq]; omega
theorem badR_byte (b : UInt8) : badR b.toNat = !goodB b := by
  have e : (b = 95) = (b.toNat = 95) := propext ⟨fun h => by rw [h]; rfl, fun h => UInt8.toNat_inj.1 h⟩
  cases h : goodB b with
  | true =>
    simp only [goodB, Bool.or_eq_true, beq_iff_eq, Bool.and_eq_true, decide_eq_true_eq, e] at h
    simp only [badR, Bool.not_true, decide_eq_false_iff_not]
    omega
  | false =>
    have h' : ¬ goodB b = true := by rw [h]; simp
    simp only [goodB, Bool.or_eq_true, beq_iff_eq, Bool.and_eq_true, decide_eq_true_eq, e] at h'
    simp only [badR, Bool.not_false, decide_eq_true_eq]
    omega
theorem decodeN_high (n b0 b1 b2 b3 : Nat) (h : 128 ≤ b0) : 128 ≤ (Lib.decodeN n b0 b1 b2 b3).1 := by
  unfold Lib.decodeN
  repeat' split
  all_goals (simp only []; omega)
theorem idx_bad (t : Str) : ∀ (f pos : Nat), t.length ≤ pos + f → pos ≤ t.length → decide (0 ≤ Lib.idxFuncFrom badR true ⟨t.toArray⟩ f pos) = (t.drop pos).any (fun c => !goodB c)
  | 0, pos, h, hp => by
    obtain rfl : pos = t.length := by omega
    simp [Lib.idxFuncFrom]
  | f + 1, pos, h, hp => by
    have hsz : (ByteArray.mk t.toArray).size = t.length := by simp [ByteArray.size]
    unfold Lib.idxFuncFrom
    rw [hsz]
    by_cases hlt : pos < t.length
    · rw [if_pos hlt]
      have hg : ((ByteArray.mk t.toArray).get! pos) = t[pos] := by simp [ByteArray.get!, hlt]
      have hd : t.drop pos = t[pos] :: t.drop (pos + 1) := List.drop_eq_getElem_cons hlt
      rw [hd, List.any_cons, Lib.decode_at, hg]
      by_cases hb : (t[pos]).toNat < 128
      · have hdec : ∀ n b1 b2 b3, Lib.decodeN n (t[pos]).toNat b1 b2 b3 = ((t[pos]).toNat, 1) := fun n b1 b2 b3 => by unfold Lib.decodeN; rw [if_pos hb]
        rw [hdec]
        simp only [badR_byte]
        cases hgb : goodB t[pos] with
        | true => simpa using idx_bad t f (pos + 1) (by omega) (by omega)
        | false => simp
      · have h1 := badR_high (decodeN_high (((ByteArray.mk t.toArray).size) - pos) _ ((ByteArray.mk t.toArray).get! (pos + 1)).toNat ((ByteArray.mk t.toArray).get! (pos + 2)).toNat ((ByteArray.mk t.toArray).get! (pos + 3)).toNat (Nat.le_of_not_lt hb))
        rw [if_pos h1]
        have hgb : goodB t[pos] = false := by
          have := badR_byte t[pos]
          rw [badR_high (Nat.le_of_not_lt hb)] at this
          simpa using this.symm
        rw [hgb]
        simp
    · obtain rfl : pos = t.length := by omega
      rw [if_neg hlt]
      simp
theorem isNameV_eq (a : UInt8) (r : Str) : isNameV (a :: r) = (!(48 ≤ a.toNat && a.toNat ≤ 57) && !decide (0 ≤ Lib.idxFunc badR true ⟨(a :: r).toArray⟩)) := by
  have hsz : (ByteArray.mk (a :: r).toArray).size = (a :: r).length := by simp [ByteArray.size]
  have := idx_bad (a :: r) (a :: r).length 0 (by omega) (by omega)
  rw [Lib.idxFunc, hsz, this, List.drop_zero, isNameV]
  congr 1
  rw [List.all_eq_not_any_not]
set_option maxRecDepth 100000 in
set_option maxHeartbeats 4000000 in
theorem bad_any (x : Nat) (w : World) : Calls Tryd.prog 52 #[.int .i32 (x : Int)] w fun e w' => e = .returned (.bool (badR x)) ∧ w' = w := by
  go_enter Tryd.func52, Tryd.ntmps52
  go_wp2_with fail
  all_goals
    go_ret
    refine ⟨congrArg Ending.returned (congrArg Value.bool ?_), rfl⟩
    rw [Bool.eq_iff_iff]
    simp [badR] <;> omega
theorem enter52 (args : Array Value) (w : World) : (callFunc 52 args).run Tryd.prog w = .ok (.enter 52 args) w := by kernel_rfl
theorem contains_any (t : Str) (w : World) : Calls Tryd.prog 53 #[.string ⟨t.toArray⟩, .func (.func 52) #[] #[]] w fun e w' => e = .returned (.bool (decide (0 ≤ Lib.idxFunc badR true ⟨t.toArray⟩))) ∧ Below w.heap.size w w' :=
  Tryd.strings_ContainsFunc 52 #[] enter52 badR ⟨t.toArray⟩ w fun W x _ => (bad_any x W).mono fun e w' ⟨he, hw⟩ => ⟨he, 0, hw⟩
set_option maxRecDepth 100000 in
set_option maxHeartbeats 4000000 in
theorem isName_any (t : Str) (w : World) : Calls Tryd.prog 42 #[.string ⟨t.toArray⟩] w fun e w' => e = .returned (.bool (isNameV t)) ∧ Below w.heap.size w w' := by
  cases t with
  | nil =>
    go_enter Tryd.func42, Tryd.ntmps42
    go_wp2_with fail
    go_ret
    exact ⟨rfl, Below.refl _ _⟩
  | cons a r =>
    have hix := fun W => run_index_at (P := Tryd.prog) 9 Tryd.underlying9 (a :: r) 0 (by simp) a rfl (0 : Int) rfl .i64 W
    rw [isNameV_eq]
    obtain ⟨D, hD⟩ : ∃ D, D = decide (0 ≤ Lib.idxFunc badR true ⟨(a :: r).toArray⟩) := ⟨_, rfl⟩
    have hcall := contains_any (a :: r) w
    rw [← hD] at hcall ⊢
    clear hD
    by_cases h1 : (a.toNat : Int) < 48
    · have hc : (48 ≤ a.toNat && a.toNat ≤ 57) = false := by
        have : ¬ 48 ≤ a.toNat := by omega
        simp [this]
      rw [hc]
      go_enter Tryd.func42, Tryd.ntmps42
      go_wp2_with fail
      refine hcall.mono ?_
      rintro e w2 ⟨rfl, hB⟩
      go_wp2_with fail
      go_ret
      exact ⟨by simp, hB⟩
    · by_cases h2 : (57 : Int) < (a.toNat : Int)
      · have hc : (48 ≤ a.toNat && a.toNat ≤ 57) = false := by
          have : ¬ a.toNat ≤ 57 := by omega
          simp [this]
        rw [hc]
        go_enter Tryd.func42, Tryd.ntmps42
        go_wp2_with fail
        refine hcall.mono ?_
        rintro e w2 ⟨rfl, hB⟩
        go_wp2_with fail
        go_ret
        exact ⟨by simp, hB⟩
      · have hc : (48 ≤ a.toNat && a.toNat ≤ 57) = true := by
          have u1 : 48 ≤ a.toNat := by omega
          have u2 : a.toNat ≤ 57 := by omega
          simp [u1, u2]
        rw [hc]
        go_enter Tryd.func42, Tryd.ntmps42
        go_wp2_with fail
        go_ret
        exact ⟨by simp, Below.refl _ _⟩
end Go.Proofs.YtklihdlfbhgpeaaDoor
