/-
  The walks of name.values, name.isHash.
-/
import Derived.Test.YthacopmahjcmaaaN3
import Derived.Maps.OwnSet
import Derived.Maps.OwnOps
namespace Go.Proofs.Ythacopmahjcmaaa
open Go.RowKit Go.Maps
set_option linter.unusedVariables false

theorem law5 : Keyed Try.prog 5 := int_keyed Try.underlying5
theorem zero3 (w : World) : (zeroValue 3).run Try.prog w = .ok (.int .i64 0) w := by kernel_rfl
theorem under78 : Try.prog.underlying 78 = some (.map 5 3) := by kernel_rfl
theorem wf_u8 (c : UInt8) : (Lit.int .u8 (c.toNat : Int)).wf = true := by
  have := c.toNat_lt
  exact WalkArith.wf_u8 (by omega)
theorem key_u8 (c : UInt8) : keyOf Try.prog 5 (.int .u8 (c.toNat : Int)) = some (.int .u8 (c.toNat : Int)) := keyOf_int_mk Try.underlying5 (wf_u8 c)

/-- The map's keys are the first k letters. -/
def KeysOf (k : Nat) (D : DataW Unit) : Prop := ∀ c : UInt8, Maps.has D (.int .u8 (c.toNat : Int)) = (LT.take k).contains c

theorem keysOf_step {k : Nat} {D : DataW Unit} (hD : IsMap D) (h : KeysOf k D) (hk : k < LT.length) (d : DataW Unit) : KeysOf (k + 1) (D.put (.int .u8 ((LT.getD k 0).toNat : Int)) d) := by
  intro c
  have e1 : LT.take (k + 1) = LT.take k ++ [LT.getD k 0] := by
    rw [List.take_succ_eq_append_getElem hk]
    simp [List.getD, List.getElem?_eq_getElem hk]
  rw [e1]
  by_cases hc : c = LT.getD k 0
  · subst hc
    rw [has_put_same hD (law5.key (key_u8 _))]
    simp
  · rw [has_put_other (by intro e; apply hc; injection e with _ e2; exact UInt8.toNat_inj.1 (by omega)), h c]
    simp only [List.contains_eq_mem, List.mem_append, List.mem_singleton, hc, or_false]

set_option maxRecDepth 100000 in
set_option maxHeartbeats 1000000 in
theorem values_any (w : World) : Calls Try.prog 59 #[] w fun e w' => e = .returned (.map (some w.heap.size)) ∧ (∃ D, w'.ownsMap Try.prog 5 (plainElem (H := Unit) Try.prog 3) w.heap.size 32 D ∧ KeysOf 32 D) ∧ Below w.heap.size w w' := by
  have hmm := @run_makeMap Try.prog
  go_enter Try.func59, Try.ntmps59
  go_wp2
  go_loopw [4] (fun i wr => ∃ k : Nat, k ≤ 32 ∧ i = .int .i64 k ∧ (∃ D, wr.ownsMap Try.prog 5 (plainElem (H := Unit) Try.prog 3) w.heap.size k D ∧ KeysOf k D) ∧ Below w.heap.size w wr)
    (fun i _ => 32 - (intOf i).toNat)
  case atStart => exact ⟨0, Nat.zero_le _, rfl, ⟨_, World.ownsMap_made _ _ _ _, fun c => by simp [Maps.has]⟩, (Below.refl _ _).alloc (Nat.le_refl _) _⟩
  case round =>
    obtain ⟨k, hk, rfl, ⟨D, hown, hkeys⟩, hnx⟩ := hrel
    by_cases hlt : k < 32
    · have hix := fun W => run_index_at (P := Try.prog) 9 Try.underlying9 LT k (by rw [LT_len]; omega) _ rfl (k : Int) rfl .i64 W
      have hst := keysOf_step (hown.isMap) hkeys (by rw [LT_len]; omega) (.lit (.int .i64 (k : Int)))
      generalize LT.getD k 0 = c at hix hst
      have hkey := key_u8 c
      have HS := hid hst
      have i32 : (k : Int) < 32 := by omega
      have hLT : (⟨#[48, 49, 50, 51, 52, 53, 54, 55, 56, 57, 97, 98, 99, 100, 102, 103, 104, 105, 106, 107, 108, 109, 110, 112, 113, 114, 115, 118, 119, 120, 121, 122]⟩ : ByteArray) = ⟨LT.toArray⟩ := rfl
      clear hst
      go_wp2_with (first
        | (at_mapUpdate; refine wpList_mapUpdate_own _ rfl _ _ _ 78 rfl 5 3 law5 under78 _ w.heap.size k _ rfl hown (by unfold maxLen; omega) _ _ _ rfl rfl hkey _ [] (plainElem_int Try.underlying3 (WalkArith.wf_i64 (by omega))) ?_; intro w1 hown1 hgrow1)
        | fail)
      exact ⟨⟨k + 1, by omega, int_cast (by omega), ⟨_, hown1, HS.out⟩, hnx.grown hgrow1 hnx.size (fun j hj => by cases hj; exact Nat.le_refl _)⟩, by simp [intOf]; omega⟩
    · obtain rfl : k = 32 := by omega
      rw [show ((32 : Nat) : Int) = 32 from rfl]
      clear hlt hk
      go_wp2_with fail
      go_ret
      exact ⟨rfl, ⟨D, hown, hkeys⟩, hnx⟩

/-- A hash's own form. -/
def isH (l : List UInt8) : Bool := l.all (fun c => LT.contains c) && decide (l.length = 32)

set_option maxRecDepth 100000 in
set_option maxHeartbeats 1000000 in
theorem isHash_any (l : List UInt8) (hl : l.length ≤ 1000000) (w : World) :
    Calls Try.prog 40 #[.string ⟨l.toArray⟩] w fun e w' => e = .returned (.bool (isH l)) ∧ Below w.heap.size w w' := by
  go_enter Try.func40, Try.ntmps40
  go_wp2_with fail
  refine (values_any _).mono ?_
  rintro e w1 ⟨rfl, ⟨D, hown, hkeys⟩, hB1⟩
  go_wp2_with fail
  go_loopw [10] (fun i wr => ∃ k : Nat, k ≤ l.length ∧ i = .int .i64 k ∧ (l.take k).all (fun c => LT.contains c) = true ∧ w1 = wr)
    (fun i _ => l.length - (intOf i).toNat)
  case atStart => exact ⟨0, Nat.zero_le _, rfl, rfl, rfl⟩
  case round =>
    obtain ⟨k, hk, rfl, hall, rfl⟩ := hrel
    by_cases hlt : k < l.length
    · have hix := fun W => run_index_at (P := Try.prog) 9 Try.underlying9 l k hlt _ rfl (k : Int) rfl .i64 W
      have e1 : l.take (k + 1) = l.take k ++ [l.getD k 0] := by
        rw [List.take_succ_eq_append_getElem hlt]
        simp [List.getD, List.getElem?_eq_getElem hlt]
      have hmem : l.getD k 0 ∈ l := by
        rw [List.getD, List.getElem?_eq_getElem hlt]
        exact List.getElem_mem hlt
      generalize l.getD k 0 = c at hix e1 hmem
      have hkey := key_u8 c
      have hh := hkeys c
      rw [show LT.take 32 = LT from rfl] at hh
      have i32 : (k : Int) < (l.length : Int) := by omega
      have HE := hid e1
      have HA := hid hall
      clear e1 hkeys hall
      by_cases hc : LT.contains c = true
      · rw [hc] at hh
        go_wp2_with (first
          | (at_lookup; refine wpList_lookup_own_ok_int _ rfl _ _ 78 rfl 5 3 .i64 law5 under78 Try.underlying3 (zero3 _) w.heap.size 32 _ rfl hown _ _ rfl hkey ?_; intro cc hat hwc; rw [hh])
          | fail)
        exact ⟨⟨k + 1, by omega, int_cast (by omega), by rw [HE.out, List.all_append, HA.out, List.all_cons, hc]; rfl, trivial⟩, by simp [intOf]; omega⟩
      · have hcf : LT.contains c = false := by simpa using hc
        rw [hcf] at hh
        have hno : isH l = false := by
          unfold isH
          rw [show l.all (fun c => LT.contains c) = false from by
            rw [List.all_eq_false]; exact ⟨c, hmem, by rw [hcf]; decide⟩]
          rfl
        have HN := hid hno
        clear hno hcf hc
        go_wp2_with (first
          | (at_lookup; refine wpList_lookup_own_ok_int _ rfl _ _ 78 rfl 5 3 .i64 law5 under78 Try.underlying3 (zero3 _) w.heap.size 32 _ rfl hown _ _ rfl hkey ?_; intro cc hat hwc; rw [hh])
          | fail)
        go_ret
        exact ⟨by rw [HN.out]; rfl, hB1⟩
    · obtain rfl : k = l.length := by omega
      rw [List.take_length] at hall
      have hyes : isH l = decide (l.length = 32) := by unfold isH; rw [hall]; rfl
      have HY := hid hyes
      clear hlt hk hkeys hall hyes
      by_cases h32 : l.length = 32
      · have h3 : (l.length : Int) = 32 := by omega
        go_wp2_with fail
        go_ret
        exact ⟨by rw [HY.out]; simp [h32], hB1⟩
      · have h3 : ¬ (l.length : Int) = 32 := by omega
        go_wp2_with fail
        go_ret
        exact ⟨by rw [HY.out]; simp [h32]; omega, hB1⟩
end Go.Proofs.Ythacopmahjcmaaa
