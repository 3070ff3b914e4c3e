/-
  The walks of the reference's letter, Is, Check, Path, Split.
-/
import Derived.Test.YthacopmahjcmaaaN7
import Derived.BigQuiet
namespace Go.Proofs.Ythacopmahjcmaaa
open Go.RowKit Go.Maps
set_option linter.unusedVariables false

set_option maxRecDepth 100000 in
set_option maxHeartbeats 1000000 in
theorem letter_any (c : UInt8) (l : List UInt8) (hl : l.length ≤ 1000000) (w : World) :
    Calls Try.prog 48 #[.int .u8 c.toNat, .string ⟨l.toArray⟩] w fun e w' => e = .returned (.bool (l.contains c)) ∧ w' = w.drewN 0 := by
  go_enter Try.func48, Try.ntmps48
  go_wp2_with fail
  go_loopg [5] l.length (fun m i wr => ∃ k : Nat, m + k = l.length ∧ i = .int .i64 k ∧ (l.take k).contains c = false ∧ w = wr)
  case atStart => exact ⟨0, rfl, rfl, rfl, rfl⟩
  case round =>
    obtain ⟨k, hk, rfl, hall, rfl⟩ := hrel
    have HM := hid hk
    by_cases hlt : k < l.length
    · have hix := fun W => run_index_at (P := Try.prog) 9 Try.underlying9 l k hlt _ rfl (k : Int) rfl .i64 W
      have e1 : l.take (k + 1) = l.take k ++ [l.getD k 0] := by
        rw [List.take_succ_eq_append_getElem hlt]
        simp [List.getD, List.getElem?_eq_getElem hlt]
      have hmem : l.getD k 0 ∈ l := by
        rw [List.getD, List.getElem?_eq_getElem hlt]
        exact List.getElem_mem hlt
      generalize l.getD k 0 = d at hix e1 hmem
      have i32 : (k : Int) < (l.length : Int) := by omega
      have HE := hid e1
      have HA := hid hall
      clear e1 hall hk
      by_cases hd : d = c
      · subst hd
        have hy : l.contains d = true := by rw [List.contains_eq_mem]; exact decide_eq_true hmem
        have HY := hid hy
        clear hy
        go_wp2_with fail
        go_ret
        exact ⟨by rw [HY.out]; rfl, rfl⟩
      · have hdi : (d.toNat : Int) ≠ (c.toNat : Int) := by
          intro e
          exact hd (UInt8.toNat_inj.1 (by omega))
        have hdn : ¬ d.toNat = c.toNat := by omega
        have HDD := hid hd
        clear hd
        go_wp2_with fail
        go_roundg (gk - 1)
        case measure => go_light; have := HM.out; omega
        case rel =>
          go_light
          have := HM.out
          refine ⟨k + 1, by omega, int_cast (by omega), ?_, rfl⟩
          have h1 := HA.out
          rw [List.contains_eq_mem, decide_eq_false_iff_not] at h1 ⊢
          rw [HE.out, List.mem_append, List.mem_singleton]
          rintro (h | h)
          · exact h1 h
          · exact HDD.out h.symm
    · obtain rfl : k = l.length := by omega
      rw [List.take_length] at hall
      have HA := hid hall
      clear hk HM hlt hall
      go_wp2_with fail
      go_ret
      exact ⟨by rw [HA.out]; rfl, rfl⟩

theorem letters_q (W : World) : Calls Try.prog 39 #[] W fun e w' => e = .returned (.string ⟨LT.toArray⟩) ∧ ∃ m, w' = W.drewN m :=
  (letters_any W).mono fun _ _ ⟨he, hw⟩ => ⟨he, 0, by rw [← hw]; rfl⟩
theorem letter_q (c : UInt8) (l : List UInt8) (hl : l.length ≤ 1000000) (W : World) : Calls Try.prog 48 #[.int .u8 c.toNat, .string ⟨l.toArray⟩] W fun e w' => e = .returned (.bool (l.contains c)) ∧ ∃ m, w' = W.drewN m :=
  (letter_any c l hl W).mono fun _ _ ⟨he, hw⟩ => ⟨he, 0, hw⟩

set_option maxRecDepth 100000 in
set_option maxHeartbeats 1000000 in
theorem is_any (l : List UInt8) (hl : l.length ≤ 1000000) (w : World) :
    Calls Try.prog 41 #[.string ⟨l.toArray⟩] w fun e w' => e = .returned (.bool (isH l)) ∧ ∃ m, w' = w.drewN m := by
  go_enter Try.func41, Try.ntmps41
  go_wp2_with fail
  go_loopg [3] l.length (fun m i wr => ∃ k : Nat, m + k = l.length ∧ i = .int .i64 k ∧ (l.take k).all (fun c => LT.contains c) = true ∧ ∃ q, wr = w.drewN q)
  case atStart => exact ⟨0, rfl, rfl, rfl, 0, rfl⟩
  case round =>
    obtain ⟨k, hk, rfl, hall, q, hq⟩ := hrel
    have HM := hid hk
    have HQ := hid hq
    clear hq
    by_cases hlt : k < l.length
    · have hix := fun W => run_index_at (P := Try.prog) 9 Try.underlying9 l k hlt _ rfl (k : Int) rfl .i64 W
      have e1 : l.take (k + 1) = l.take k ++ [l.getD k 0] := by
        rw [List.take_succ_eq_append_getElem hlt]
        simp [List.getD, List.getElem?_eq_getElem hlt]
      have hmem : l.getD k 0 ∈ l := by
        rw [List.getD, List.getElem?_eq_getElem hlt]
        exact List.getElem_mem hlt
      generalize l.getD k 0 = c at hix e1 hmem
      have i32 : (k : Int) < (l.length : Int) := by omega
      have hq1 := letter_q c LT (by decide)
      have hq0 := letters_q
      obtain ⟨b, hb⟩ : ∃ b, b = LT.contains c := ⟨_, rfl⟩
      rw [← hb] at hq1
      have HB := hid hb
      clear hb
      have HE := hid e1
      have HA := hid hall
      clear e1 hall hk
      go_wp2_with fail
      go_quiet ((first | (go_at_call 39; first | exact quiet_on hq0 | exact quiet_on0 hq0) | (go_at_call 48; first | exact quiet_on hq1 | exact quiet_on0 hq1)))
      cases b with
      | true =>
        go_wp2_with fail
        go_roundg (gk - 1)
        case measure => go_light; have := HM.out; omega
        case rel =>
          go_light
          have := HM.out
          exact ⟨k + 1, by omega, int_cast (by omega), by rw [HE.out, List.all_append, HA.out, List.all_cons, ← HB.out]; rfl, q + nq, by rw [HQ.out, World.drewN_drewN]⟩
      | false =>
        have hno : isH l = false := by
          unfold isH
          rw [show l.all (fun c => LT.contains c) = false from by
            rw [List.all_eq_false]; exact ⟨c, hmem, by rw [← HB.out]; decide⟩]
          rfl
        have HN := hid hno
        clear hno
        go_wp2_with fail
        go_ret
        exact ⟨by rw [HN.out]; rfl, q + nq, by rw [HQ.out, World.drewN_drewN]⟩
    · obtain rfl : k = l.length := by omega
      rw [List.take_length] at hall
      have hyes : isH l = decide (l.length = 32) := by unfold isH; rw [hall]; rfl
      have HY := hid hyes
      clear hlt hk HM hall hyes
      by_cases h32 : l.length = 32
      · have h3 : (l.length : Int) = 32 := by omega
        go_wp2_with fail
        go_ret
        exact ⟨by rw [HY.out]; simp [h32], q, HQ.out⟩
      · have h3 : ¬ (l.length : Int) = 32 := by omega
        go_wp2_with fail
        go_ret
        exact ⟨by rw [HY.out]; simp [h32]; omega, q, HQ.out⟩

set_option maxRecDepth 100000 in
set_option maxHeartbeats 4000000 in
theorem refCheck_any (l : List UInt8) (hl : l.length ≤ 1000000) (w : World) :
    Calls Try.prog 25 #[.string ⟨l.toArray⟩] w fun e w' => e = .returned (.int .i64 (nameE l)) ∧ ∃ m, w' = w.drewN m := by
  by_cases h20 : (20 : Int) < l.length
  · go_enter Try.func25, Try.ntmps25
    go_wp2_with fail
    go_ret
    exact ⟨by rw [nameE, if_pos (by omega)]; rfl, 0, rfl⟩
  · go_enter Try.func25, Try.ntmps25
    go_wp2_with fail
    go_loopg [3] l.length (fun m i wr => ∃ k : Nat, m + k = l.length ∧ i = .int .i64 k ∧ (l.take k).all okC = true ∧ ∃ q, wr = w.drewN q)
    case atStart => exact ⟨0, rfl, rfl, rfl, 0, rfl⟩
    case round =>
      obtain ⟨k, hk, rfl, hall, q, hq⟩ := hrel
      have HM := hid hk
      have HQ := hid hq
      clear hq
      by_cases hlt : k < l.length
      · have hix := fun W => run_index_at (P := Try.prog) 9 Try.underlying9 l k hlt _ rfl (k : Int) rfl .i64 W
        have e1 : l.take (k + 1) = l.take k ++ [l.getD k 0] := by
          rw [List.take_succ_eq_append_getElem hlt]
          simp [List.getD, List.getElem?_eq_getElem hlt]
        have hmem : l.getD k 0 ∈ l := by
          rw [List.getD, List.getElem?_eq_getElem hlt]
          exact List.getElem_mem hlt
        generalize l.getD k 0 = c at hix e1 hmem
        have i32 : (k : Int) < (l.length : Int) := by omega
        have HE := hid e1
        have HA := hid hall
        have hL := fun W => letter_any c MK (by decide) W
        have hok0 : okC c = ((decide (97 ≤ c.toNat) && decide (c.toNat ≤ 122)) || (decide (65 ≤ c.toNat) && decide (c.toNat ≤ 90)) || (decide (48 ≤ c.toNat) && decide (c.toNat ≤ 57)) || MK.contains c) := rfl
        have hcl := c.toNat_lt
        generalize c.toNat = x at hix hL hok0 hcl
        have HOK := hid hok0
        have HL := hid hL
        clear e1 hall hk hok0 hL
        have hx : x ≤ 47 ∨ (48 ≤ x ∧ x ≤ 57) ∨ (58 ≤ x ∧ x ≤ 64) ∨ (65 ≤ x ∧ x ≤ 90) ∨ (91 ≤ x ∧ x ≤ 96) ∨ (97 ≤ x ∧ x ≤ 122) ∨ 123 ≤ x := by omega
        rcases hx with hx | hx | hx | hx | hx | hx | hx
        · have hok : okC c = MK.contains c := by
            have e0 : (decide (97 ≤ x) && decide (x ≤ 122)) = false := by rw [decide_eq_false (show ¬ 97 ≤ x by omega)]; rfl
            have e1 : (decide (65 ≤ x) && decide (x ≤ 90)) = false := by rw [decide_eq_false (show ¬ 65 ≤ x by omega)]; rfl
            have e2 : (decide (48 ≤ x) && decide (x ≤ 57)) = false := by rw [decide_eq_false (show ¬ 48 ≤ x by omega)]; rfl
            rw [HOK.out, e0, e1, e2]; rfl
          have f0a : ¬ (97 : Int) ≤ x := by omega
          have f0b : (x : Int) ≤ 122 := by omega
          have f1a : ¬ (65 : Int) ≤ x := by omega
          have f1b : (x : Int) ≤ 90 := by omega
          have f2a : ¬ (48 : Int) ≤ x := by omega
          have f2b : (x : Int) ≤ 57 := by omega
          go_wp2_with fail
          refine (HL.out _).mono ?_
          rintro e w1 ⟨rfl, hw1⟩
          obtain rfl : w1 = wr := hw1
          rw [← hok]
          cases hb : okC c with
          | true =>
            have HK := hid hb
            clear hb hok
            go_wp2_with fail
            go_roundg (gk - 1)
            case measure => go_light; have := HM.out; omega
            case rel =>
              go_light
              have := HM.out
              exact ⟨k + 1, by omega, int_cast (by omega), by rw [HE.out, List.all_append, HA.out, List.all_cons, HK.out]; rfl, q, HQ.out⟩
          | false =>
            have hno : nameE l = 2 := by
              unfold nameE
              rw [if_neg (by omega), if_pos (by rw [List.all_eq_false]; exact ⟨c, hmem, by rw [hb]; decide⟩)]
            have HN := hid hno
            clear hb hno hok
            go_wp2_with fail
            go_ret
            exact ⟨by rw [HN.out]; rfl, q, HQ.out⟩
        · have hok : okC c = true := by
            have e : (decide (48 ≤ x) && decide (x ≤ 57)) = true := by rw [decide_eq_true (show 48 ≤ x by omega), decide_eq_true (show x ≤ 57 by omega)]; rfl
            rw [HOK.out, e]; simp
          have f0a : ¬ (97 : Int) ≤ x := by omega
          have f0b : (x : Int) ≤ 122 := by omega
          have f1a : ¬ (65 : Int) ≤ x := by omega
          have f1b : (x : Int) ≤ 90 := by omega
          have f2a : (48 : Int) ≤ x := by omega
          have f2b : (x : Int) ≤ 57 := by omega
          have HK := hid hok
          clear hok
          go_wp2_with fail
          go_roundg (gk - 1)
          case measure => go_light; have := HM.out; omega
          case rel =>
            go_light
            have := HM.out
            exact ⟨k + 1, by omega, int_cast (by omega), by rw [HE.out, List.all_append, HA.out, List.all_cons, HK.out]; rfl, q, HQ.out⟩
        · have hok : okC c = MK.contains c := by
            have e0 : (decide (97 ≤ x) && decide (x ≤ 122)) = false := by rw [decide_eq_false (show ¬ 97 ≤ x by omega)]; rfl
            have e1 : (decide (65 ≤ x) && decide (x ≤ 90)) = false := by rw [decide_eq_false (show ¬ 65 ≤ x by omega)]; rfl
            have e2 : (decide (48 ≤ x) && decide (x ≤ 57)) = false := by rw [decide_eq_false (show ¬ x ≤ 57 by omega)]; exact Bool.and_false _
            rw [HOK.out, e0, e1, e2]; rfl
          have f0a : ¬ (97 : Int) ≤ x := by omega
          have f0b : (x : Int) ≤ 122 := by omega
          have f1a : ¬ (65 : Int) ≤ x := by omega
          have f1b : (x : Int) ≤ 90 := by omega
          have f2a : (48 : Int) ≤ x := by omega
          have f2b : ¬ (x : Int) ≤ 57 := by omega
          go_wp2_with fail
          refine (HL.out _).mono ?_
          rintro e w1 ⟨rfl, hw1⟩
          obtain rfl : w1 = wr := hw1
          rw [← hok]
          cases hb : okC c with
          | true =>
            have HK := hid hb
            clear hb hok
            go_wp2_with fail
            go_roundg (gk - 1)
            case measure => go_light; have := HM.out; omega
            case rel =>
              go_light
              have := HM.out
              exact ⟨k + 1, by omega, int_cast (by omega), by rw [HE.out, List.all_append, HA.out, List.all_cons, HK.out]; rfl, q, HQ.out⟩
          | false =>
            have hno : nameE l = 2 := by
              unfold nameE
              rw [if_neg (by omega), if_pos (by rw [List.all_eq_false]; exact ⟨c, hmem, by rw [hb]; decide⟩)]
            have HN := hid hno
            clear hb hno hok
            go_wp2_with fail
            go_ret
            exact ⟨by rw [HN.out]; rfl, q, HQ.out⟩
        · have hok : okC c = true := by
            have e : (decide (65 ≤ x) && decide (x ≤ 90)) = true := by rw [decide_eq_true (show 65 ≤ x by omega), decide_eq_true (show x ≤ 90 by omega)]; rfl
            rw [HOK.out, e]; simp
          have f0a : ¬ (97 : Int) ≤ x := by omega
          have f0b : (x : Int) ≤ 122 := by omega
          have f1a : (65 : Int) ≤ x := by omega
          have f1b : (x : Int) ≤ 90 := by omega
          have f2a : (48 : Int) ≤ x := by omega
          have f2b : ¬ (x : Int) ≤ 57 := by omega
          have HK := hid hok
          clear hok
          go_wp2_with fail
          go_roundg (gk - 1)
          case measure => go_light; have := HM.out; omega
          case rel =>
            go_light
            have := HM.out
            exact ⟨k + 1, by omega, int_cast (by omega), by rw [HE.out, List.all_append, HA.out, List.all_cons, HK.out]; rfl, q, HQ.out⟩
        · have hok : okC c = MK.contains c := by
            have e0 : (decide (97 ≤ x) && decide (x ≤ 122)) = false := by rw [decide_eq_false (show ¬ 97 ≤ x by omega)]; rfl
            have e1 : (decide (65 ≤ x) && decide (x ≤ 90)) = false := by rw [decide_eq_false (show ¬ x ≤ 90 by omega)]; exact Bool.and_false _
            have e2 : (decide (48 ≤ x) && decide (x ≤ 57)) = false := by rw [decide_eq_false (show ¬ x ≤ 57 by omega)]; exact Bool.and_false _
            rw [HOK.out, e0, e1, e2]; rfl
          have f0a : ¬ (97 : Int) ≤ x := by omega
          have f0b : (x : Int) ≤ 122 := by omega
          have f1a : (65 : Int) ≤ x := by omega
          have f1b : ¬ (x : Int) ≤ 90 := by omega
          have f2a : (48 : Int) ≤ x := by omega
          have f2b : ¬ (x : Int) ≤ 57 := by omega
          go_wp2_with fail
          refine (HL.out _).mono ?_
          rintro e w1 ⟨rfl, hw1⟩
          obtain rfl : w1 = wr := hw1
          rw [← hok]
          cases hb : okC c with
          | true =>
            have HK := hid hb
            clear hb hok
            go_wp2_with fail
            go_roundg (gk - 1)
            case measure => go_light; have := HM.out; omega
            case rel =>
              go_light
              have := HM.out
              exact ⟨k + 1, by omega, int_cast (by omega), by rw [HE.out, List.all_append, HA.out, List.all_cons, HK.out]; rfl, q, HQ.out⟩
          | false =>
            have hno : nameE l = 2 := by
              unfold nameE
              rw [if_neg (by omega), if_pos (by rw [List.all_eq_false]; exact ⟨c, hmem, by rw [hb]; decide⟩)]
            have HN := hid hno
            clear hb hno hok
            go_wp2_with fail
            go_ret
            exact ⟨by rw [HN.out]; rfl, q, HQ.out⟩
        · have hok : okC c = true := by
            have e : (decide (97 ≤ x) && decide (x ≤ 122)) = true := by rw [decide_eq_true (show 97 ≤ x by omega), decide_eq_true (show x ≤ 122 by omega)]; rfl
            rw [HOK.out, e]; simp
          have f0a : (97 : Int) ≤ x := by omega
          have f0b : (x : Int) ≤ 122 := by omega
          have f1a : (65 : Int) ≤ x := by omega
          have f1b : ¬ (x : Int) ≤ 90 := by omega
          have f2a : (48 : Int) ≤ x := by omega
          have f2b : ¬ (x : Int) ≤ 57 := by omega
          have HK := hid hok
          clear hok
          go_wp2_with fail
          go_roundg (gk - 1)
          case measure => go_light; have := HM.out; omega
          case rel =>
            go_light
            have := HM.out
            exact ⟨k + 1, by omega, int_cast (by omega), by rw [HE.out, List.all_append, HA.out, List.all_cons, HK.out]; rfl, q, HQ.out⟩
        · have hok : okC c = MK.contains c := by
            have e0 : (decide (97 ≤ x) && decide (x ≤ 122)) = false := by rw [decide_eq_false (show ¬ x ≤ 122 by omega)]; exact Bool.and_false _
            have e1 : (decide (65 ≤ x) && decide (x ≤ 90)) = false := by rw [decide_eq_false (show ¬ x ≤ 90 by omega)]; exact Bool.and_false _
            have e2 : (decide (48 ≤ x) && decide (x ≤ 57)) = false := by rw [decide_eq_false (show ¬ x ≤ 57 by omega)]; exact Bool.and_false _
            rw [HOK.out, e0, e1, e2]; rfl
          have f0a : (97 : Int) ≤ x := by omega
          have f0b : ¬ (x : Int) ≤ 122 := by omega
          have f1a : (65 : Int) ≤ x := by omega
          have f1b : ¬ (x : Int) ≤ 90 := by omega
          have f2a : (48 : Int) ≤ x := by omega
          have f2b : ¬ (x : Int) ≤ 57 := by omega
          go_wp2_with fail
          refine (HL.out _).mono ?_
          rintro e w1 ⟨rfl, hw1⟩
          obtain rfl : w1 = wr := hw1
          rw [← hok]
          cases hb : okC c with
          | true =>
            have HK := hid hb
            clear hb hok
            go_wp2_with fail
            go_roundg (gk - 1)
            case measure => go_light; have := HM.out; omega
            case rel =>
              go_light
              have := HM.out
              exact ⟨k + 1, by omega, int_cast (by omega), by rw [HE.out, List.all_append, HA.out, List.all_cons, HK.out]; rfl, q, HQ.out⟩
          | false =>
            have hno : nameE l = 2 := by
              unfold nameE
              rw [if_neg (by omega), if_pos (by rw [List.all_eq_false]; exact ⟨c, hmem, by rw [hb]; decide⟩)]
            have HN := hid hno
            clear hb hno hok
            go_wp2_with fail
            go_ret
            exact ⟨by rw [HN.out]; rfl, q, HQ.out⟩
      · obtain rfl : k = l.length := by omega
        rw [List.take_length] at hall
        clear hk HM hlt
        have hne : nameE l = if l = [] ∨ l.head? = some 46 then 2 else 0 := by
          unfold nameE
          rw [if_neg (by omega), if_neg (by rw [hall]; decide)]
        have HN := hid hne
        clear hne hall
        by_cases h0 : l = []
        · subst h0
          rw [show (([] : List UInt8).length : Int) = 0 from rfl]
          go_wp2_with fail
          go_ret
          exact ⟨by rw [HN.out]; rfl, q, HQ.out⟩
        · have h00 : l.isEmpty = false := by cases l with | nil => exact absurd rfl h0 | cons a t => rfl
          have hp : 0 < l.length := by cases l with | nil => exact absurd rfl h0 | cons a t => simp
          have hix := fun W => run_index_at (P := Try.prog) 9 Try.underlying9 l 0 hp _ rfl 0 rfl .i64 W
          have hhd : l.head? = some (l.getD 0 0) := by
            rw [List.head?_eq_getElem?, List.getD, List.getElem?_eq_getElem hp]
            rfl
          generalize l.getD 0 0 = a at hix hhd
          have HH := hid hhd
          have H0 := hid h0
          clear hhd hp h0
          by_cases ha : a = 46
          · subst ha
            go_wp2_with fail
            go_ret
            exact ⟨by rw [HN.out, if_pos (Or.inr HH.out)]; rfl, q, HQ.out⟩
          · have hai : ((a.toNat : Int) == 46) = false := by
              rw [beq_eq_false_iff_ne]
              intro e
              apply ha
              exact UInt8.toNat_inj.1 (by have : a.toNat = 46 := by omega
                                          rw [this]; rfl)
            go_wp2_with fail
            go_ret
            exact ⟨by rw [HN.out, if_neg (by rintro (e | e); exact H0.out e; rw [HH.out] at e; exact ha (Option.some.inj e))]; rfl, q, HQ.out⟩

set_option maxRecDepth 100000 in
set_option maxHeartbeats 1000000 in
theorem refPath_any (h n : List UInt8) (hh : h.length ≤ 1000) (hn : n.length ≤ 1000) (w : World) :
    Calls Try.prog 21 #[.string ⟨h.toArray⟩, .string ⟨n.toArray⟩] w fun e w' => e = .returned (.tuple #[.string ⟨(pathL h n).1.toArray⟩, .int .i64 (pathL h n).2]) ∧ Below w.heap.size w w' := by
  have hdef : pathL h n = if isH h = false then ([], 2) else if nameE n ≠ 0 then ([], nameE n) else (h ++ 45 :: n, 0) := rfl
  have HD := hid hdef
  clear hdef
  go_enter Try.func21, Try.ntmps21
  go_wp2_with fail
  refine (is_any h (by omega) _).mono ?_
  rintro e w1 ⟨rfl, q1, hq1⟩
  have HQ1 := hid hq1
  clear hq1
  cases hi : isH h with
  | false =>
    have HI := hid hi
    clear hi
    go_wp2_with fail
    go_ret2
    exact ⟨by rw [HD.out, if_pos HI.out]; rfl, by rw [HQ1.out]; exact below_drewN (Below.refl _ _) _⟩
  | true =>
    have HI := hid hi
    clear hi
    go_wp2_with fail
    refine (refCheck_any n (by omega) _).mono ?_
    rintro e w2 ⟨rfl, q2, hq2⟩
    have hb12 : Below w.heap.size w w2 := by rw [hq2, HQ1.out, World.drewN_drewN]; exact below_drewN (Below.refl _ _) _
    clear hq2 HQ1
    obtain ⟨v, hv⟩ : ∃ v, v = nameE n := ⟨_, rfl⟩
    rw [← hv]
    have HV := hid hv
    clear hv
    by_cases hz : v = 0
    · subst hz
      go_wp2_with fail
      go_ret2
      exact ⟨by rw [HD.out, if_neg (by rw [HI.out]; decide), if_neg (by rw [← HV.out]; decide)]; rfl, hb12⟩
    · go_wp2_with fail
      go_ret2
      exact ⟨by rw [HD.out, if_neg (by rw [HI.out]; decide), if_pos (by rw [← HV.out]; exact hz), ← HV.out]; rfl, hb12⟩
end Go.Proofs.Ythacopmahjcmaaa
