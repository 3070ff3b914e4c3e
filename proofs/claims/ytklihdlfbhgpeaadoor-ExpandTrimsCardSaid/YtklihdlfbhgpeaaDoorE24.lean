/-
  The walk of ExpandTrims. No conditions beside the table of powers of ten.
-/
import Derived.Test.YtklihdlfbhgpeaaDoorE24d
namespace Go.Proofs.YtklihdlfbhgpeaaDoor
open Go.RowKit
set_option linter.unusedVariables false

set_option maxRecDepth 100000 in
set_option maxHeartbeats 4000000 in
theorem expandTrims_list (s0 t0 : Str) (w : World) (hT : Tab w) :
    Calls Tryd.prog 5 #[.string ⟨s0.toArray⟩, .string ⟨t0.toArray⟩] w fun e w' => e = .returned (.bool true) ∧ Below w.heap.size w w' := by
  obtain ⟨ns, hns⟩ : ∃ m, m = min s0.length 60 := ⟨_, rfl⟩
  obtain ⟨nt, hnt⟩ : ∃ m, m = min t0.length 20 := ⟨_, rfl⟩
  have f1 : min (s0.length : Int) 60 = (ns : Int) := by omega
  have f2 : (ns : Int) ≤ (s0.length : Int) := by omega
  have f3 : min (t0.length : Int) 20 = (nt : Int) := by omega
  have f4 : (nt : Int) ≤ (t0.length : Int) := by omega
  have n60 : ns ≤ 60 := by omega
  have t20 : nt ≤ 20 := by omega
  have HT := hid hT
  clear hT hns hnt
  go_enter Tryd.func5, Tryd.ntmps5
  go_upto_region 3 with fail
  have hs60 : (s0.take ns).length ≤ 60 := by rw [List.length_take]; omega
  have ht20 : (t0.take nt).length ≤ 20 := by rw [List.length_take]; omega
  generalize s0.take ns = s at *
  generalize t0.take nt = t at *
  clear f1 f2 f3 f4 n60 t20
  have hsI : (s.length : Int) ≤ 60 := by omega
  have htI : (t.length : Int) ≤ 20 := by omega
  go_upto_region 6 with fail
  obtain ⟨W, hW⟩ : ∃ W, W = (w.alloc (.cells #[.string ⟨#[118]⟩, .string ⟨s.toArray⟩] 44)).alloc (.cells #[.slice (some ⟨w.heap.size, 0, none⟩) 1 1, .slice none 0 0, .int .i64 0] 26) := ⟨_, rfl⟩
  have hBW : Below w.heap.size w W := by rw [hW]; exact ((Below.refl _ _).alloc (Nat.le_refl _) _).alloc (by simp) _
  have hVB : VBox W (w.heap.size + 1) s := by
    refine ⟨w.heap.size, ?_, ?_⟩
    · rw [hW]
      have := heap_alloc_new (w.alloc (.cells #[.string ⟨#[118]⟩, .string ⟨s.toArray⟩] 44)) (.cells #[.slice (some ⟨w.heap.size, 0, none⟩) 1 1, .slice none 0 0, .int .i64 0] 26)
      simp only [World.size_alloc] at this
      exact this
    · rw [hW]; exact At.alloc (heap_alloc_new w _) _
  rw [← hW]
  clear hW
  have HV := hid (And.intro hBW (And.intro hVB (HT.out.below hBW)))
  clear hBW hVB HT
  have hcl : t.length ≤ s.length → (t.length : Int) ≤ (s.length : Int) := by omega
  go_cut [43] (fun s43 wx => s43 = .bool (decide (t.length ≤ s.length ∧ s.take t.length = t)) ∧ W = wx)
  case first =>
    by_cases h1 : t.length ≤ s.length
    · have h1I := hcl h1
      by_cases h2 : s.take t.length = t
      · have HH := hid (And.intro h1 h2)
        have h2b : (s.take t.length == t) = true := by simpa using h2
        clear h2
        go_wp2_with fail
        go_meet
        exact ⟨by rw [decide_eq_true HH.out], rfl⟩
      · have HH := hid h2
        have h2b : (s.take t.length == t) = false := by simpa using h2
        go_wp2_with fail
        go_meet
        exact ⟨by rw [decide_eq_false (fun h => HH.out h.2)], rfl⟩
    · have h1I : ¬ (t.length : Int) ≤ (s.length : Int) := by omega
      have HH := hid h1
      go_wp2_with fail
      go_meet
      exact ⟨by rw [decide_eq_false (fun h => HH.out h.1)], rfl⟩
  case rest =>
    obtain ⟨rfl, rfl⟩ := hcut
    go_upto_if 43 with fail
    go_cut [7] (fun s7 wx => s7 = .string ⟨(wantV s t).toArray⟩ ∧ W = wx)
    case first =>
      by_cases hc : t.length ≤ s.length ∧ s.take t.length = t
      · have hcI := hcl hc.1
        have HC := hid hc
        rw [decide_eq_true hc]
        clear hc
        go_wp2_with fail
        go_meet
        exact ⟨by unfold wantV; rw [if_pos HC.out], rfl⟩
      · have HC := hid hc
        rw [decide_eq_false hc]
        clear hc
        go_wp2_with fail
        go_meet
        exact ⟨by unfold wantV; rw [if_neg HC.out], rfl⟩
    case rest =>
      obtain ⟨rfl, rfl⟩ := hcut
      have hwr0 : t.length ≤ s.length → IntKind.i64.wrap ((s.length : Int) - (t.length : Int)) = ((s.length - t.length : Nat) : Int) := fun h => by rw [IntWalk.i64_in _ (by omega)]; omega
      have hle : ((s.length - t.length : Nat) : Int) ≤ (s.length : Int) := by omega
      go_upto_region 8 with fail
      go_cut [63] (fun s63 wx => s63 = .bool (decide (t.length ≤ s.length ∧ s.drop (s.length - t.length) = t)) ∧ W = wx)
      case first =>
        by_cases h1 : t.length ≤ s.length
        · have h1I := hcl h1
          have hwr := hwr0 h1
          by_cases h2 : s.drop (s.length - t.length) = t
          · have HH := hid (And.intro h1 h2)
            have h2b : (s.drop (s.length - t.length) == t) = true := by simpa using h2
            clear h2
            go_wp2_with fail
            go_meet
            exact ⟨by rw [decide_eq_true HH.out], rfl⟩
          · have HH := hid h2
            have h2b : (s.drop (s.length - t.length) == t) = false := by simpa using h2
            go_wp2_with fail
            go_meet
            exact ⟨by rw [decide_eq_false (fun h => HH.out h.2)], rfl⟩
        · have h1I : ¬ (t.length : Int) ≤ (s.length : Int) := by omega
          have HH := hid h1
          go_wp2_with fail
          go_meet
          exact ⟨by rw [decide_eq_false (fun h => HH.out h.1)], rfl⟩
      case rest =>
        obtain ⟨rfl, rfl⟩ := hcut
        go_upto_if 63 with fail
        go_cut [8] (fun s8 wx => s8 = .string ⟨(endV s t).toArray⟩ ∧ W = wx)
        case first =>
          by_cases hc : t.length ≤ s.length ∧ s.drop (s.length - t.length) = t
          · have hcI := hcl hc.1
            have hwr := hwr0 hc.1
            have HC := hid hc
            rw [decide_eq_true hc]
            clear hc
            go_wp2_with fail
            go_meet
            exact ⟨by unfold endV; rw [if_pos HC.out], rfl⟩
          · have HC := hid hc
            rw [decide_eq_false hc]
            clear hc
            go_wp2_with fail
            go_meet
            exact ⟨by unfold endV; rw [if_neg HC.out], rfl⟩
        case rest =>
          obtain ⟨rfl, rfl⟩ := hcut
          clear hwr0 hle
          refine (by assumption : ∀ (a : Act) (w' : World), Code.wp Tryd.prog _ _ a w' → _) _ _ (trims_tail10 s t w W hs60 ht20 HV)
end Go.Proofs.YtklihdlfbhgpeaaDoor
