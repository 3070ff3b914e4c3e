/-
  The walk of NameKnown.
-/
import Derived.Test.YthacopmahjcmaaaN8
import Derived.Test.YthacopmahjcmaaaFastN
import Derived.Deep.RegionHeld3
namespace Go.Proofs.Ythacopmahjcmaaa
open Go.RowKit Go.Maps
set_option linter.unusedVariables false

/-- The asked names and their answers, as cells. -/
def asked : Array Value := #[Value.string { data := #[] }, Value.int IntKind.i64 2, Value.string { data := #[97, 32, 98] }, Value.int IntKind.i64 2, Value.string { data := #[43] }, Value.int IntKind.i64 0, Value.string { data := #[46, 97] }, Value.int IntKind.i64 2, Value.string { data := #[97, 46] }, Value.int IntKind.i64 0, Value.string { data := #[45] }, Value.int IntKind.i64 0, Value.string { data := #[95, 90, 57] }, Value.int IntKind.i64 0, Value.string { data := #[49, 50, 51, 52, 53, 54, 55, 56, 57, 48, 49, 50, 51, 52, 53, 54, 55, 56, 57, 48] }, Value.int IntKind.i64 0, Value.string { data := #[49, 50, 51, 52, 53, 54, 55, 56, 57, 48, 49, 50, 51, 52, 53, 54, 55, 56, 57, 48, 49] }, Value.int IntKind.i64 3, Value.string { data := #[97, 47, 98] }, Value.int IntKind.i64 2, Value.string { data := #[0] }, Value.int IntKind.i64 2]
theorem asked_at : ∀ k, k < 11 → ∃ s : List UInt8, ∃ v : Int, asked[k * 2]? = some (.string ⟨s.toArray⟩) ∧ asked[k * 2 + 1]? = some (.int .i64 v) ∧ nameE s = v ∧ s.length ≤ 100
  | 0, _ => ⟨[], 2, rfl, rfl, by decide, by decide⟩
  | 1, _ => ⟨[97, 32, 98], 2, rfl, rfl, by decide, by decide⟩
  | 2, _ => ⟨[43], 0, rfl, rfl, by decide, by decide⟩
  | 3, _ => ⟨[46, 97], 2, rfl, rfl, by decide, by decide⟩
  | 4, _ => ⟨[97, 46], 0, rfl, rfl, by decide, by decide⟩
  | 5, _ => ⟨[45], 0, rfl, rfl, by decide, by decide⟩
  | 6, _ => ⟨[95, 90, 57], 0, rfl, rfl, by decide, by decide⟩
  | 7, _ => ⟨[49, 50, 51, 52, 53, 54, 55, 56, 57, 48, 49, 50, 51, 52, 53, 54, 55, 56, 57, 48], 0, rfl, rfl, by decide, by decide⟩
  | 8, _ => ⟨[49, 50, 51, 52, 53, 54, 55, 56, 57, 48, 49, 50, 51, 52, 53, 54, 55, 56, 57, 48, 49], 3, rfl, rfl, by decide, by decide⟩
  | 9, _ => ⟨[97, 47, 98], 2, rfl, rfl, by decide, by decide⟩
  | 10, _ => ⟨[0], 2, rfl, rfl, by decide, by decide⟩
  | k + 11, h => absurd h (by omega)

set_option maxRecDepth 100000 in
set_option maxHeartbeats 4000000 in
theorem nameKnown_walk (w : World) : Calls Try.prog 12 #[] w fun e w' => e = .returned (.bool true) ∧ Below w.heap.size w w' := by
  have hC2 := fun W => path_any NG [46, 97] (by decide) (by decide) W
  rw [show pathL NG [46, 97] = ([], 2) by decide] at hC2
  have hC3 := fun W => path_any [48] [97] (by decide) (by decide) W
  rw [show pathL [48] [97] = ([], 2) by decide] at hC3
  have hC5 := fun W => path_any NG [49, 50, 51, 52, 53, 54, 55, 56, 57, 48, 49, 50, 51, 52, 53, 54, 55, 56, 57, 48, 49] (by decide) (by decide) W
  rw [show pathL NG [49, 50, 51, 52, 53, 54, 55, 56, 57, 48, 49, 50, 51, 52, 53, 54, 55, 56, 57, 48, 49] = ([], 3) by decide] at hC5
  have hC7 := fun W => path_any (NG.take 31 ++ [101]) [97] (by decide) (by decide) W
  rw [show pathL (NG.take 31 ++ [101]) [97] = ([], 2) by decide] at hC7
  have hC8 := fun W => path_any [] [] (by decide) (by decide) W
  rw [show pathL [] [] = ([], 2) by decide] at hC8
  have hC10 := fun W => split_any NG (by decide) W
  rw [show splitL NG = ([], [], 4) by decide] at hC10
  have hC12 := fun W => split_any (NG ++ [45]) (by decide) W
  rw [show splitL (NG ++ [45]) = ([], [], 4) by decide] at hC12
  have hC14 := fun W => split_any (NG ++ [95, 97]) (by decide) W
  rw [show splitL (NG ++ [95, 97]) = ([], [], 4) by decide] at hC14
  have hC16 := fun W => split_any (NG.take 31 ++ [45, 97]) (by decide) W
  rw [show splitL (NG.take 31 ++ [45, 97]) = ([], [], 4) by decide] at hC16
  have hNG := fun W => noughts_any W
  have hngl := NG_len
  generalize NG = ng at hNG hngl hC2 hC3 hC5 hC7 hC8 hC10 hC12 hC14 hC16
  have HNG := hid hNG
  have HC2 := hid hC2
  have HC3 := hid hC3
  have HC5 := hid hC5
  have HC7 := hid hC7
  have HC8 := hid hC8
  have HC10 := hid hC10
  have HC12 := hid hC12
  have HC14 := hid hC14
  have HC16 := hid hC16
  clear hNG hC2 hC3 hC5 hC7 hC8 hC10 hC12 hC14 hC16
  have hHa := fun W => hash_any [97] (by decide) W
  have hHb := fun W => hash_any [98] (by decide) W
  have hap := hash_apart
  generalize hashL [97] = ha at hHa hap
  generalize hashL [98] = hb at hHb hap
  have HHa := hid hHa
  have HHb := hid hHb
  clear hHa hHb
  go_enter Try.func12, Try.ntmps12
  go_wp2_with fail
  rw [show (#[Value.string { data := #[] }, Value.int IntKind.i64 2, Value.string { data := #[97, 32, 98] }, Value.int IntKind.i64 2, Value.string { data := #[43] }, Value.int IntKind.i64 0, Value.string { data := #[46, 97] }, Value.int IntKind.i64 2, Value.string { data := #[97, 46] }, Value.int IntKind.i64 0, Value.string { data := #[45] }, Value.int IntKind.i64 0, Value.string { data := #[95, 90, 57] }, Value.int IntKind.i64 0, Value.string { data := #[49, 50, 51, 52, 53, 54, 55, 56, 57, 48, 49, 50, 51, 52, 53, 54, 55, 56, 57, 48] }, Value.int IntKind.i64 0, Value.string { data := #[49, 50, 51, 52, 53, 54, 55, 56, 57, 48, 49, 50, 51, 52, 53, 54, 55, 56, 57, 48, 49] }, Value.int IntKind.i64 3, Value.string { data := #[97, 47, 98] }, Value.int IntKind.i64 2, Value.string { data := #[0] }, Value.int IntKind.i64 2] : Array Value) = asked from rfl]
  have hc0 := fun i x h => cell_new4 w asked 38 i x h
  have hs0 : (w.alloc (.cells asked 38)).heap.size = w.heap.size + 1 := by simp
  have hb0 : Below w.heap.size w (w.alloc (.cells asked 38)) := (Below.refl _ _).alloc (Nat.le_refl _) _
  generalize w.alloc (.cells asked 38) = W0 at hc0 hs0 hb0 ⊢
  go_loopg [38] 11 (fun m i wr => ∃ k : Nat, m + k = 11 ∧ i = .int .i64 k ∧ Below W0.heap.size W0 wr)
  case atStart => exact ⟨0, rfl, rfl, Below.refl _ _⟩
  case round =>
    obtain ⟨k, hk, rfl, hB⟩ := hrel
    have HM := hid hk
    by_cases hlt : k < 11
    · obtain ⟨s, v, h1, h2, h3, h4⟩ := asked_at k hlt
      have c1 : wr.cell? ⟨w.heap.size, k * 2, none⟩ = some (.string ⟨s.toArray⟩) := (hB.cell (p := ⟨w.heap.size, k * 2, none⟩) (by rw [hs0]; exact Nat.lt_succ_self _)).trans (hc0 _ _ h1)
      have c2 : wr.cell? ⟨w.heap.size, k * 2 + 1, none⟩ = some (.int .i64 v) := (hB.cell (p := ⟨w.heap.size, k * 2 + 1, none⟩) (by rw [hs0]; exact Nat.lt_succ_self _)).trans (hc0 _ _ h2)
      have i32 : (k : Int) < 11 := by omega
      have H3 := hid h3
      have HB := hid hB
      have HC := hid hc0
      have hsz := hB.size
      have hCK := fun W => check_any s (by omega) W
      rw [h3] at hCK
      have HCK := hid hCK
      clear hk h1 h2 h3 hB hc0 hCK
      go_wp2_with fail
      have d1 := cell_new4 wr #[.string ⟨s.toArray⟩, .int .i64 v] 38 0 _ rfl
      have d2 := cell_new4 wr #[.string ⟨s.toArray⟩, .int .i64 v] 38 1 _ rfl
      have hb1 := HB.out.alloc hsz (.cells #[.string ⟨s.toArray⟩, .int .i64 v] 38)
      have hs1 : (wr.alloc (.cells #[.string ⟨s.toArray⟩, .int .i64 v] 38)).heap.size = wr.heap.size + 1 := by simp
      generalize wr.alloc (.cells #[.string ⟨s.toArray⟩, .int .i64 v] 38) = W1 at d1 d2 hb1 hs1 ⊢
      clear c1 c2 HB HC H3
      go_region_held3 (fun w' => w'.cell? ⟨wr.heap.size, 0, none⟩ = some (.string ⟨s.toArray⟩) ∧ w'.cell? ⟨wr.heap.size, 1, none⟩ = some (.int .i64 v))
        (first | go_keep | (refine ⟨?_, ?_⟩; (rw [hB2.cell (p := ⟨wr.heap.size, 0, none⟩) (by simp; omega)]; assumption); (rw [hB2.cell (p := ⟨wr.heap.size, 1, none⟩) (by simp; omega)]; assumption)))
        (first | (go_at_call 24; refine (HCK.out _).mono ?_; rintro e w2 ⟨rfl, hB2⟩))
      rename_i hHeld
      clear hHeld
      go_wp2_with fail
      go_roundg (gk - 1)
      case measure => go_light; have := HM.out; omega
      case rel =>
        go_light
        have := HM.out
        exact ⟨k + 1, by omega, int_cast (by omega), hb1.drew.trans (hB2.mono hb1.size)⟩
    · obtain rfl : k = 11 := by omega
      rw [show ((11 : Nat) : Int) = 11 from rfl]
      have hbb := hb0.trans (hB.mono hb0.size)
      clear hlt hk HM hc0 hs0 hb0 hB
      go_wp2_with fail
      refine (HNG.out _).mono ?_
      rintro e x1 ⟨rfl, hx1⟩
      obtain rfl := hx1
      go_wp2_with fail
      refine (HC2.out _).mono ?_
      rintro e y2 ⟨rfl, hy2⟩
      have hbb := hbb.trans (hy2.mono hbb.size)
      clear hy2
      go_wp2_with fail
      refine (HC3.out _).mono ?_
      rintro e y3 ⟨rfl, hy3⟩
      have hbb := hbb.trans (hy3.mono hbb.size)
      clear hy3
      go_wp2_with fail
      refine (HNG.out _).mono ?_
      rintro e x4 ⟨rfl, hx4⟩
      obtain rfl := hx4
      go_wp2_with fail
      refine (HC5.out _).mono ?_
      rintro e y5 ⟨rfl, hy5⟩
      have hbb := hbb.trans (hy5.mono hbb.size)
      clear hy5
      go_wp2_with fail
      refine (HNG.out _).mono ?_
      rintro e x6 ⟨rfl, hx6⟩
      obtain rfl := hx6
      go_wp2_with fail
      refine (HC7.out _).mono ?_
      rintro e y7 ⟨rfl, hy7⟩
      have hbb := hbb.trans (hy7.mono hbb.size)
      clear hy7
      go_wp2_with fail
      refine (HC8.out _).mono ?_
      rintro e y8 ⟨rfl, hy8⟩
      have hbb := hbb.trans (hy8.mono hbb.size)
      clear hy8
      go_wp2_with fail
      refine (HNG.out _).mono ?_
      rintro e x9 ⟨rfl, hx9⟩
      obtain rfl := hx9
      go_wp2_with fail
      refine (HC10.out _).mono ?_
      rintro e y10 ⟨rfl, hy10⟩
      have hbb := hbb.trans (hy10.mono hbb.size)
      clear hy10
      go_wp2_with fail
      refine (HNG.out _).mono ?_
      rintro e x11 ⟨rfl, hx11⟩
      obtain rfl := hx11
      go_wp2_with fail
      refine (HC12.out _).mono ?_
      rintro e y12 ⟨rfl, hy12⟩
      have hbb := hbb.trans (hy12.mono hbb.size)
      clear hy12
      go_wp2_with fail
      refine (HNG.out _).mono ?_
      rintro e x13 ⟨rfl, hx13⟩
      obtain rfl := hx13
      go_wp2_with fail
      refine (HC14.out _).mono ?_
      rintro e y14 ⟨rfl, hy14⟩
      have hbb := hbb.trans (hy14.mono hbb.size)
      clear hy14
      go_wp2_with fail
      refine (HNG.out _).mono ?_
      rintro e x15 ⟨rfl, hx15⟩
      obtain rfl := hx15
      go_wp2_with fail
      refine (HC16.out _).mono ?_
      rintro e y16 ⟨rfl, hy16⟩
      have hbb := hbb.trans (hy16.mono hbb.size)
      clear hy16
      go_wp2_with fail
      refine (HHa.out _).mono ?_
      rintro e z1 ⟨rfl, hz1⟩
      have hbb := hbb.trans (hz1.mono hbb.size)
      clear hz1
      go_wp2_with fail
      refine (HHb.out _).mono ?_
      rintro e z2 ⟨rfl, hz2⟩
      have hbb := hbb.trans (hz2.mono hbb.size)
      clear hz2
      have hapb : (ha == hb) = false := beq_eq_false_iff_ne.2 hap
      go_wp2_with fail
      refine (works_any _).mono ?_
      rintro e z3 ⟨rfl, hz3⟩
      have hbb := hbb.trans (hz3.mono hbb.size)
      go_wp2_with fail
      go_ret
      exact ⟨by rfl, hbb⟩
end Go.Proofs.Ythacopmahjcmaaa
