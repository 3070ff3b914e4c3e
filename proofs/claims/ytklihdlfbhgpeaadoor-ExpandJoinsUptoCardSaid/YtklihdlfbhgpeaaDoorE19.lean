/-
  The walks of Expand, of the law's lit, quo, par, vars.
-/
import Derived.Test.YtklihdlfbhgpeaaDoorE18
namespace Go.Proofs.YtklihdlfbhgpeaaDoor
open Go.RowKit
set_option linter.unusedVariables false

set_option maxRecDepth 100000 in
set_option maxHeartbeats 4000000 in
theorem expand_nil (A : Option Addr) (n c : Nat) (w : World) : Calls Tryd.prog 9 #[.slice A n c, .nilIface] w fun e w' => e = .returned (.tuple #[.slice none 0 0, .int .i64 1]) ∧ w' = w := by
  go_enter Tryd.func9, Tryd.ntmps9
  go_wp2_with fail
  go_ret2
  exact ⟨rfl, rfl⟩
set_option maxRecDepth 100000 in
set_option maxHeartbeats 4000000 in
theorem expand_any [Inhabited LowT] (S : Nat → Prop) (Eb : Nat) (σ : EnvV) (ps : List PartV) (A : Option Addr) (c : Nat) (w : World) (hE : EnvAt w S Eb σ) (hS0 : ∀ k, k ≤ lowN → ¬ S k) (hT : Tab w) (hP : PAt 20 w A ps) (hW : WB 20 ps σ) :
    Calls Tryd.prog 9 #[.slice A ps.length c, .iface 28 (.pointer (some ⟨Eb, 0, none⟩))] w fun e w' => ∃ v, e = .returned (.tuple #[v, .int .i64 (evalW 20 ps σ).e]) ∧
      ((evalW 20 ps σ).e = 0 → FldOut w' (fun b => w.heap.size ≤ b) v (evalW 20 ps σ).F) ∧ ((evalW 20 ps σ).e ≠ 0 → v = .slice none 0 0) ∧ EnvAt w' S Eb (evalW 20 ps σ).s ∧ Kw (ME S) w w' := by
  have hx := exp_ok 20 (Nat.le_refl _) S Eb σ ps A c 1 w hE hS0 hT hP hW (by decide)
  generalize evalW 20 ps σ = o at *
  have HX := hid hx
  clear hx hE hT hP hW
  go_enter Tryd.func9, Tryd.ntmps9
  go_wp2_with fail
  refine HX.out.mono ?_
  rintro e w2 ⟨v, rfl, h1, h2, h3, h4⟩
  have HZ := hid (And.intro h1 (And.intro h2 (And.intro h3 h4)))
  clear h1 h2 h3 h4
  go_wp2_with fail
  go_ret2
  exact ⟨v, rfl, HZ.out⟩
set_option maxRecDepth 100000 in
set_option maxHeartbeats 4000000 in
theorem quo_any (s : Str) (w : World) : Calls Tryd.prog 12 #[.string ⟨s.toArray⟩] w fun e w' => e = .returned (.agg #[.int .i64 1, .string ⟨s.toArray⟩, .string ⟨#[]⟩, .bool true, .slice none 0 0, .pointer none]) ∧ Below w.heap.size w w' := by
  go_enter Tryd.func12, Tryd.ntmps12
  go_wp2_with fail
  simp [bodyPost, results, go_sem]
  exact (Below.refl _ _).alloc (Nat.le_refl _) _
set_option maxRecDepth 100000 in
set_option maxHeartbeats 4000000 in
theorem litp_any (s : Str) (w : World) : Calls Tryd.prog 14 #[.string ⟨s.toArray⟩] w fun e w' => e = .returned (.agg #[.int .i64 0, .string ⟨s.toArray⟩, .string ⟨#[]⟩, .bool false, .slice none 0 0, .pointer none]) ∧ Below w.heap.size w w' := by
  go_enter Tryd.func14, Tryd.ntmps14
  go_wp2_with fail
  simp [bodyPost, results, go_sem]
  exact (Below.refl _ _).alloc (Nat.le_refl _) _
set_option maxRecDepth 100000 in
set_option maxHeartbeats 4000000 in
theorem par_any (t o : Str) (q : Bool) (A : Option Addr) (n c : Nat) (w : World) : Calls Tryd.prog 13 #[.string ⟨t.toArray⟩, .string ⟨o.toArray⟩, .bool q, .slice A n c] w fun e w' => e = .returned (.agg #[.int .i64 2, .string ⟨t.toArray⟩, .string ⟨o.toArray⟩, .bool q, .slice A n c, .pointer none]) ∧ Below w.heap.size w w' := by
  go_enter Tryd.func13, Tryd.ntmps13
  go_wp2_with fail
  simp [bodyPost, results, go_sem]
  exact (Below.refl _ _).alloc (Nat.le_refl _) _
/-- Variables as a value, in memory: what an environment is made of. -/
def VarsAt (w : World) (B : Nat) (v : Value) (σ : EnvV) : Prop := σ.seen = [] ∧ ∃ vL AA cA, v = .agg #[vL, .slice AA σ.args.length cA, .int .i64 σ.status] ∧ w.ownsRow 0 44 2 vL σ.vars.length (vrv σ.vars) ∧ Grows (fun k => B ≤ k) vL σ.vars.length ∧ TR w 9 1 AA σ.args.length (txv σ.args)
theorem VarsAt.below {w w' : World} {B : Nat} {v : Value} {σ : EnvV} (h : VarsAt w B v σ) (hb : Below w.heap.size w w') : VarsAt w' B v σ := by
  obtain ⟨h0, vL, AA, cA, h1, h2, h3, h4⟩ := h
  exact ⟨h0, vL, AA, cA, h1, own_kw h2 (Kw.below (M := fun _ _ => False) hb) fun _ _ h => h, h3, h4.below hb⟩
def varsV : EnvV := ⟨[([120], [97, 32, 98]), ([121], [])], [[49], [50, 32, 51]], 7, []⟩
set_option maxRecDepth 100000 in
set_option maxHeartbeats 4000000 in
theorem vars_any (B : Nat) (w : World) (hB : B ≤ w.heap.size) : Calls Tryd.prog 16 #[] w fun e w' => (∃ v, e = .returned v ∧ VarsAt w' B v varsV) ∧ Below w.heap.size w w' := by
  go_enter Tryd.func16, Tryd.ntmps16
  go_wp2_with fail
  obtain ⟨W, hW⟩ : ∃ W, W = ((w.alloc (.cells #[.slice (some ⟨w.heap.size + 1, 0, none⟩) 2 2, .slice (some ⟨w.heap.size + 1 + 1, 0, none⟩) 2 2, .int .i64 7] 26)).alloc (.cells #[.string ⟨#[120]⟩, .string ⟨#[97, 32, 98]⟩, .string ⟨#[121]⟩, .string ⟨#[]⟩] 44)).alloc (.cells #[.string ⟨#[49]⟩, .string ⟨#[50, 32, 51]⟩] 9) := ⟨_, rfl⟩
  have hBW : Below w.heap.size w W := by rw [hW]; exact (((Below.refl _ _).alloc (Nat.le_refl _) _).alloc (by simp) _).alloc (by simp; omega) _
  have hA : At W w.heap.size 26 #[.slice (some ⟨w.heap.size + 1, 0, none⟩) 2 2, .slice (some ⟨w.heap.size + 1 + 1, 0, none⟩) 2 2, .int .i64 7] := by rw [hW]; exact At.alloc (At.alloc (heap_alloc_new w _) _) _
  have hA1 : At W (w.heap.size + 1) 44 #[.string ⟨#[120]⟩, .string ⟨#[97, 32, 98]⟩, .string ⟨#[121]⟩, .string ⟨#[]⟩] := by
    rw [hW]
    have := heap_alloc_new (w.alloc (.cells #[.slice (some ⟨w.heap.size + 1, 0, none⟩) 2 2, .slice (some ⟨w.heap.size + 1 + 1, 0, none⟩) 2 2, .int .i64 7] 26)) (.cells #[.string ⟨#[120]⟩, .string ⟨#[97, 32, 98]⟩, .string ⟨#[121]⟩, .string ⟨#[]⟩] 44)
    simp only [World.size_alloc] at this
    exact At.alloc this _
  have hA2 : At W (w.heap.size + 1 + 1) 9 #[.string ⟨#[49]⟩, .string ⟨#[50, 32, 51]⟩] := by
    rw [hW]
    have := heap_alloc_new ((w.alloc (.cells #[.slice (some ⟨w.heap.size + 1, 0, none⟩) 2 2, .slice (some ⟨w.heap.size + 1 + 1, 0, none⟩) 2 2, .int .i64 7] 26)).alloc (.cells #[.string ⟨#[120]⟩, .string ⟨#[97, 32, 98]⟩, .string ⟨#[121]⟩, .string ⟨#[]⟩] 44)) (.cells #[.string ⟨#[49]⟩, .string ⟨#[50, 32, 51]⟩] 9)
    simp only [World.size_alloc] at this
    exact this
  rw [← hW]
  clear hW
  have c0 : W.cell? ⟨w.heap.size, 0, none⟩ = some (.slice (some ⟨w.heap.size + 1, 0, none⟩) 2 2) := by rw [hA.cell]; rfl
  have c1 : W.cell? ⟨w.heap.size, 1, none⟩ = some (.slice (some ⟨w.heap.size + 1 + 1, 0, none⟩) 2 2) := by rw [hA.cell]; rfl
  have c2 : W.cell? ⟨w.heap.size, 2, none⟩ = some (.int .i64 7) := by rw [hA.cell]; rfl
  have HF : Hid (VarsAt W B (.agg #[.slice (some ⟨w.heap.size + 1, 0, none⟩) 2 2, .slice (some ⟨w.heap.size + 1 + 1, 0, none⟩) 2 2, .int .i64 7]) varsV ∧ Below w.heap.size w W) := by
    refine hid ⟨⟨rfl, _, _, 2, rfl, ⟨rfl, .inr ⟨w.heap.size + 1, 2, _, rfl, Nat.zero_le _, hA1, by decide, by unfold maxLen; omega, rfl, rfl⟩⟩, .inr ⟨_, rfl⟩, rfl, fun _ => ⟨w.heap.size + 1 + 1, 0, _, (0, 0), rfl, hA2, fun j u hj => ?_⟩⟩, hBW⟩
    rw [Nat.zero_add, ← Array.getElem?_toList]
    exact hj
  clear hA hA1 hA2 hBW
  simp [bodyPost, results, go_sem, c0, c1, c2]
  exact HF.out
end Go.Proofs.YtklihdlfbhgpeaaDoor
