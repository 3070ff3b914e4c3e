/-
  The walk of WireKnown.
-/
import Derived.Test.YtefgoaokndbbhaaW9
import Derived.Deep.RegionHeld3
namespace Go.Proofs.Ytefgoaokndbbhaa
open Go.RowKit
set_option linter.unusedVariables false

def tab1 : Array Value := #[.int .u64 0, .string ⟨#[0]⟩, .int .u64 127, .string ⟨#[127]⟩, .int .u64 128, .string ⟨#[129, 0]⟩, .int .u64 300, .string ⟨#[130, 44]⟩, .int .u64 16383, .string ⟨#[255, 127]⟩,
  .int .u64 16384, .string ⟨#[129, 128, 0]⟩, .int .u64 18446744073709551615, .string ⟨#[129, 255, 255, 255, 255, 255, 255, 255, 255, 127]⟩]
theorem tab1_row (a : Nat) (l : List UInt8) (h : numRow a = l) (ha : a < 18446744073709551616) (i j : Nat) (h1 : tab1[i]? = some (.int .u64 (a : Int))) (h2 : tab1[j]? = some (.string ⟨l.toArray⟩)) :
    ∃ n : Nat, n < 18446744073709551616 ∧ tab1[i]? = some (.int .u64 (n : Int)) ∧ tab1[j]? = some (.string ⟨(numRow n).toArray⟩) := ⟨a, ha, h1, by rw [h]; exact h2⟩
theorem tab1_at (i : Nat) (h : i < 7) : ∃ n : Nat, n < 18446744073709551616 ∧ tab1[i * 2]? = some (.int .u64 (n : Int)) ∧ tab1[i * 2 + 1]? = some (.string ⟨(numRow n).toArray⟩) := by
  match i, h with
  | 0, _ => exact tab1_row 0 [0] (by decide +kernel) (by decide) _ _ rfl rfl
  | 1, _ => exact tab1_row 127 [127] (by decide +kernel) (by decide) _ _ rfl rfl
  | 2, _ => exact tab1_row 128 [129, 0] (by decide +kernel) (by decide) _ _ rfl rfl
  | 3, _ => exact tab1_row 300 [130, 44] (by decide +kernel) (by decide) _ _ rfl rfl
  | 4, _ => exact tab1_row 16383 [255, 127] (by decide +kernel) (by decide) _ _ rfl rfl
  | 5, _ => exact tab1_row 16384 [129, 128, 0] (by decide +kernel) (by decide) _ _ rfl rfl
  | 6, _ => exact tab1_row 18446744073709551615 [129, 255, 255, 255, 255, 255, 255, 255, 255, 127] (by decide +kernel) (by decide) _ _ rfl rfl

def tab2 : Array Value := #[.string ⟨#[]⟩, .string ⟨#[128, 5]⟩, .string ⟨#[129]⟩, .string ⟨#[128, 0]⟩, .string ⟨#[130, 128, 128, 128, 128, 128, 128, 128, 128, 0]⟩, .string ⟨#[129, 128, 128, 128, 128, 128, 128, 128, 128, 128, 0]⟩,
  .string ⟨#[255, 255, 255, 255, 255, 255, 255, 255, 255, 255, 127]⟩]
theorem tab2_at (i : Nat) (h : i < 7) : ∃ l : List UInt8, l.length ≤ 20 ∧ rowLen l = 0 ∧ tab2[i]? = some (.string ⟨l.toArray⟩) := by
  match i, h with
  | 0, _ => exact ⟨[], by decide, by decide +kernel, rfl⟩
  | 1, _ => exact ⟨[128, 5], by decide, by decide +kernel, rfl⟩
  | 2, _ => exact ⟨[129], by decide, by decide +kernel, rfl⟩
  | 3, _ => exact ⟨[128, 0], by decide, by decide +kernel, rfl⟩
  | 4, _ => exact ⟨[130, 128, 128, 128, 128, 128, 128, 128, 128, 0], by decide, by decide +kernel, rfl⟩
  | 5, _ => exact ⟨[129, 128, 128, 128, 128, 128, 128, 128, 128, 128, 0], by decide, by decide +kernel, rfl⟩
  | 6, _ => exact ⟨[255, 255, 255, 255, 255, 255, 255, 255, 255, 255, 127], by decide, by decide +kernel, rfl⟩

/-- A reader that finds no row is lost, and stays so. -/
theorem num_lost (l : List UInt8) (hl : l.length ≤ 20) (h : rowLen l = 0) (g : Nat) (lost : Bool) (W : World) (hr : Rdr W g l lost) :
    Calls Try.prog 15 #[.pointer (some ⟨g, 0, none⟩)] W fun e w' => e = .returned (.int .u64 0) ∧ Rdr w' g [] true ∧ Only g W w' := by
  have := num_any g l lost W hr (by omega)
  rw [show numVal l = 0 by simp [numVal, h, valF], show numRest l = [] by simp [numRest, h], show numLost l lost = true by simp [numLost, h]] at this
  exact this
theorem text_lost (g : Nat) (W : World) (hr : Rdr W g [] true) :
    Calls Try.prog 17 #[.pointer (some ⟨g, 0, none⟩)] W fun e w' => e = .returned (.string ⟨#[]⟩) ∧ Rdr w' g [] true ∧ Only g W w' := text_any g [] true W hr (by simp)

set_option maxHeartbeats 400000 in
theorem take_nil (w : World) : Calls Try.prog 23 #[.pointer none, .func (.func 24) #[] #[]] w fun e w' => e = .returned (.slice none 0 0) ∧ w = w' := by
  go_enter Try.func23, Try.ntmps23
  go_wp2_with fail
  go_ret
  exact ⟨rfl, rfl⟩
set_option maxHeartbeats 400000 in
theorem num_nil (w : World) : Calls Try.prog 15 #[.pointer none] w fun e w' => e = .returned (.int .u64 0) ∧ w = w' := by
  go_enter Try.func15, Try.ntmps15
  go_wp2_with (go_at_call 23; refine (take_nil _).mono ?_; rintro e w' ⟨rfl, rfl⟩)
  refine wp_loop_rounds 1 ?_
  rw [rounds_succ]
  go_wp2
  go_ret
  exact ⟨rfl, rfl⟩
set_option maxHeartbeats 400000 in
theorem text_nil (w : World) : Calls Try.prog 17 #[.pointer none] w fun e w' => e = .returned (.string ⟨#[]⟩) ∧ Below w.heap.size w w' := by
  go_enter Try.func17, Try.ntmps17
  go_wp2_with (go_at_call 15; refine (num_nil _).mono ?_; rintro e w' ⟨rfl, rfl⟩)
  go_ret
  exact ⟨rfl, (Below.refl _ _).alloc (Nat.le_refl _) _⟩
set_option maxHeartbeats 400000 in
theorem ok_nil (w : World) : Calls Try.prog 19 #[.pointer none] w fun e w' => e = .returned (.bool false) ∧ w = w' := by
  go_enter Try.func19, Try.ntmps19
  go_wp2
  go_ret
  exact ⟨rfl, rfl⟩
set_option maxHeartbeats 400000 in
theorem end_nil (w : World) : Calls Try.prog 21 #[.pointer none] w fun e w' => e = .returned (.bool false) ∧ w = w' := by
  go_enter Try.func21, Try.ntmps21
  go_wp2_with (go_at_call 19; refine (ok_nil _).mono ?_; rintro e w' ⟨rfl, rfl⟩)
  go_ret
  exact ⟨rfl, rfl⟩
theorem text_four (g : Nat) (W : World) (hr : Rdr W g [4, 97, 98, 99] false) :
    Calls Try.prog 17 #[.pointer (some ⟨g, 0, none⟩)] W fun e w' => e = .returned (.string ⟨#[]⟩) ∧ Rdr w' g [] true ∧ Only g W w' := text_any g _ _ W hr (by simp)
theorem putText_none (w : World) : Calls Try.prog 11 #[.string ⟨#[]⟩, .string ⟨#[]⟩] w fun e w' => e = .returned (.string ⟨#[0]⟩) ∧ Below w.heap.size w w' := putText_any [] [] w (by simp) (by simp)

set_option maxRecDepth 100000 in
set_option maxHeartbeats 4000000 in
theorem wireKnown_walk (w : World) : Calls Try.prog 8 #[] w fun e w' => e = .returned (.bool true) ∧ Below w.heap.size w w' := by
  go_enter Try.func8, Try.ntmps8
  go_wp2_with fail
  go_loopg [18] 7 (fun m v18 wr => ∃ i : Nat, m + i = 7 ∧ v18 = .int .i64 i ∧ At wr w.heap.size 40 tab1 ∧ Below w.heap.size w wr)
  case atStart => exact ⟨0, rfl, rfl, At.new _ _ _, (Below.refl _ _).alloc (Nat.le_refl _) _⟩
  case round =>
    obtain ⟨i, hi, rfl, hA, hb⟩ := hrel
    have HI := hid hi
    by_cases hlt : i < 7
    · obtain ⟨n, hn, h1, h2⟩ := tab1_at i hlt
      have c0 : wr.cell? ⟨w.heap.size, i * 2, none⟩ = some (.int .u64 (n : Int)) := by rw [hA.cell]; exact h1
      have c1 : wr.cell? ⟨w.heap.size, i * 2 + 1, none⟩ = some (.string ⟨(numRow n).toArray⟩) := by rw [hA.cell]; exact h2
      clear h1 h2 hi
      go_wp2_with fail
      have hl10 := numRow_len n
      obtain ⟨e1, e2, e3⟩ := num_of_row n hn []
      rw [List.append_nil] at e1 e2 e3
      have N1 := fun g W hr => num_any g (numRow n) false W hr (by omega)
      rw [e1, e2, e3] at N1
      have HN1 := hid N1
      have P1 := fun W => putNum_any [113] n W hn (by simp)
      have HP1 := hid P1
      clear e1 e2 e3 N1 P1
      refine (newReader_any (numRow n) _).mono ?_
      rintro e w2 ⟨g, rfl, hg2, hr2, hb2⟩
      have hg2' : wr.heap.size + 1 ≤ g := by simpa using hg2
      have hB2 : wr.heap.size < w2.heap.size := by have := hb2.size; simp at this; omega
      have d0 : w2.cell? ⟨wr.heap.size, 0, none⟩ = some (.int .u64 (n : Int)) := by
        rw [hb2.cell (p := ⟨wr.heap.size, 0, none⟩) (by simp), (At.new wr 40 _).cell]; rfl
      have d1 : w2.cell? ⟨wr.heap.size, 1, none⟩ = some (.string ⟨(numRow n).toArray⟩) := by
        rw [hb2.cell (p := ⟨wr.heap.size, 1, none⟩) (by simp), (At.new wr 40 _).cell]; rfl
      have hA2 : At w2 w.heap.size 40 tab1 := (hA.alloc _).below hb2 (by have := hA.lt; simp; omega)
      have hne : wr.heap.size ≠ g := by omega
      have hAl := hA.lt
      clear c0 c1
      go_wp2_with fail
      have hs1 : ¬ (9223372036854775807 < 1 + (numRow n).length) := by omega
      have hs2 : 1 + (numRow n).length ≤ 9223372036854775807 := by omega
      go_region_held3 (fun w' => w'.cell? ⟨wr.heap.size, 0, none⟩ = some (.int .u64 (n : Int)) ∧ w'.cell? ⟨wr.heap.size, 1, none⟩ = some (.string ⟨(numRow n).toArray⟩))
        (first
          | go_keep
          | exact ⟨(hb3.cell (p := ⟨wr.heap.size, 0, none⟩) hB2).trans d0, (hb3.cell (p := ⟨wr.heap.size, 1, none⟩) hB2).trans d1⟩
          | exact ⟨(ho4.cell (p := ⟨wr.heap.size, 0, none⟩) hB3 hne).trans d0', (ho4.cell (p := ⟨wr.heap.size, 1, none⟩) hB3 hne).trans d1'⟩)
        (first
          | (go_at_call 9
             refine (HP1.out _).mono ?_
             rintro e w3 ⟨rfl, hb3⟩
             have hB3 : wr.heap.size < w3.heap.size := Nat.lt_of_lt_of_le hB2 hb3.size
             have d0' := (hb3.cell (p := ⟨wr.heap.size, 0, none⟩) hB2).trans d0
             have d1' := (hb3.cell (p := ⟨wr.heap.size, 1, none⟩) hB2).trans d1
             have hr3 := hr2.below (below_of_drew hb3))
          | (go_at_call 15; refine (HN1.out g _ hr3).mono ?_; rintro e w4 ⟨rfl, hr4, ho4⟩)
          | (go_at_call 21; refine (end_any g _ _ _ hr4).mono ?_; rintro e w5 ⟨rfl, rfl⟩))
      clear hs1 hs2
      go_wp2_with fail
      go_roundg (gk - 1)
      case measure => go_light; have := HI.out; omega
      case rel =>
        go_light
        have := HI.out
        have b3 := below_of_drew hb3
        have s2 := hb2.size
        simp at s2
        exact ⟨i + 1, by omega, int_cast (by omega), ho4.at_ (hA2.below b3 hA2.lt) (by omega),
          below_only (below_then (below_then (hb.alloc hb.size _) hb2) b3) ho4 (by have := hb.size; omega)⟩
    · obtain rfl : i = 7 := by omega
      clear hi HI hA
      go_wp2_with fail
      have hBw := hb.size
      generalize hB : wr.heap.size = B at hBw ⊢
      rw [show ((7 : Nat) : Int) = 7 from rfl]
      have HB := hid hB
      clear hB
      go_loopg [50] 7 (fun m v50 wx => ∃ i : Nat, m + i = 7 ∧ v50 = .int .i64 i ∧ At wx B 9 tab2 ∧ Below w.heap.size w wx)
      case atStart => exact ⟨0, rfl, rfl, At.new' _ _ _ HB.out, hb.alloc hb.size _⟩
      case round =>
        clear hb
        obtain ⟨i, hi, rfl, hA, hb⟩ := hrel
        have HI := hid hi
        by_cases hlt : i < 7
        · obtain ⟨l, hl, h1, h2⟩ := tab2_at i hlt
          have c0 : wr.cell? ⟨B, i, none⟩ = some (.string ⟨l.toArray⟩) := by rw [hA.cell]; exact h2
          have hAl := hA.lt
          have H1 := hid h1
          clear h1 h2 hi
          go_wp2_with fail
          refine (newReader_any l _).mono ?_
          rintro e w2 ⟨g, rfl, hg2, hr2, hb2⟩
          go_wp2_with fail
          refine (ok_any g _ _ _ hr2).mono ?_
          rintro e w3 ⟨rfl, rfl⟩
          go_wp2_with fail
          refine (num_lost l hl H1.out g _ _ hr2).mono ?_
          rintro e w3 ⟨rfl, hr3, ho3⟩
          go_wp2_with fail
          refine (ok_any g _ _ _ hr3).mono ?_
          rintro e w4 ⟨rfl, rfl⟩
          go_wp2_with fail
          refine (end_any g _ _ _ hr3).mono ?_
          rintro e w4 ⟨rfl, rfl⟩
          go_wp2_with fail
          refine (num_lost [] (by simp) (by rfl) g _ _ hr3).mono ?_
          rintro e w4 ⟨rfl, hr4, ho4⟩
          go_wp2_with fail
          refine (text_lost g _ hr4).mono ?_
          rintro e w5 ⟨rfl, hr5, ho5⟩
          go_wp2_with fail
          go_roundg (gk - 1)
          case measure => go_light; have := HI.out; omega
          case rel =>
            go_light
            have := HI.out
            have hgw : w.heap.size ≤ g := Nat.le_trans hb.size hg2
            exact ⟨i + 1, by omega, int_cast (by omega), ho5.at_ (ho4.at_ (ho3.at_ (hA.below hb2 hAl) (by omega)) (by omega)) (by omega),
              below_only (below_only (below_only (below_then hb hb2) ho3 hgw) ho4 hgw) ho5 hgw⟩
        · obtain rfl : i = 7 := by omega
          clear hi HI hA
          go_wp2_with fail
          refine (newReader_any [4, 97, 98, 99] _).mono ?_
          rintro e w2 ⟨g, rfl, hg2, hr2, hb2⟩
          have hgw : w.heap.size ≤ g := Nat.le_trans hb.size hg2
          go_wp2_with fail
          refine (text_four g _ hr2).mono ?_
          rintro e w3 ⟨rfl, hr3, ho3⟩
          go_wp2_with fail
          refine (ok_any g _ _ _ hr3).mono ?_
          rintro e w4 ⟨rfl, rfl⟩
          go_wp2_with fail
          refine (putText_none _).mono ?_
          rintro e w4 ⟨rfl, hb4⟩
          go_wp2_with fail
          refine (num_nil _).mono ?_
          rintro e w5 ⟨rfl, rfl⟩
          go_wp2_with fail
          refine (text_nil _).mono ?_
          rintro e w5 ⟨rfl, hb5⟩
          go_wp2_with fail
          refine (ok_nil _).mono ?_
          rintro e w6 ⟨rfl, rfl⟩
          go_wp2_with fail
          refine (end_nil _).mono ?_
          rintro e w6 ⟨rfl, rfl⟩
          go_wp2_with fail
          refine (works_any _).mono ?_
          rintro e w6 ⟨rfl, hb6⟩
          go_wp2_with fail
          go_ret
          exact ⟨rfl, below_then (below_then (below_then (below_only (below_then hb hb2) ho3 hgw) hb4) hb5) hb6⟩
end Go.Proofs.Ytefgoaokndbbhaa
