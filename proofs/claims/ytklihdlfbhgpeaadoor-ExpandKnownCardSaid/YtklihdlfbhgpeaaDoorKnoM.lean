/-
  ExpandKnown's words, in memory. No conditions.
-/
import Derived.Test.YtklihdlfbhgpeaaDoorKnoP
namespace Go.Proofs.YtklihdlfbhgpeaaDoor
open Go.RowKit
set_option linter.unusedVariables false

set_option maxRecDepth 100000 in
set_option maxHeartbeats 4000000 in
theorem vars_all (w : World) : Calls Tryd.prog 16 #[] w fun e w' => (∃ v, e = .returned v ∧ ∀ B, VarsAt w' B v varsV) ∧ Below w.heap.size w w' := by
  go_enter Tryd.func16, Tryd.ntmps16
  go_wp2_with fail
  obtain ⟨W, hW⟩ : ∃ W, W = ((w.alloc (.cells #[.slice (some ⟨w.heap.size + 1, 0, none⟩) 2 2, .slice (some ⟨w.heap.size + 1 + 1, 0, none⟩) 2 2, .int .i64 7] 26)).alloc (.cells #[.string ⟨#[120]⟩, .string ⟨#[97, 32, 98]⟩, .string ⟨#[121]⟩, .string ⟨#[]⟩] 44)).alloc (.cells #[.string ⟨#[49]⟩, .string ⟨#[50, 32, 51]⟩] 9) := ⟨_, rfl⟩
  have hBW : Below w.heap.size w W := by rw [hW]; exact (((Below.refl _ _).alloc (Nat.le_refl _) _).alloc (by simp) _).alloc (by simp; omega) _
  have hA : At W w.heap.size 26 #[.slice (some ⟨w.heap.size + 1, 0, none⟩) 2 2, .slice (some ⟨w.heap.size + 1 + 1, 0, none⟩) 2 2, .int .i64 7] := by rw [hW]; exact At.alloc (At.alloc (heap_alloc_new w _) _) _
  have hA1 : At W (w.heap.size + 1) 44 #[.string ⟨#[120]⟩, .string ⟨#[97, 32, 98]⟩, .string ⟨#[121]⟩, .string ⟨#[]⟩] := by
    rw [hW]
    have := heap_alloc_new (w.alloc (.cells #[.slice (some ⟨w.heap.size + 1, 0, none⟩) 2 2, .slice (some ⟨w.heap.size + 1 + 1, 0, none⟩) 2 2, .int .i64 7] 26)) (.cells #[.string ⟨#[120]⟩, .string ⟨#[97, 32, 98]⟩, .string ⟨#[121]⟩, .string ⟨#[]⟩] 44)
    simp only [World.size_alloc] at this
    exact At.alloc this _
  have hA2 : At W (w.heap.size + 1 + 1) 9 #[.string ⟨#[49]⟩, .string ⟨#[50, 32, 51]⟩] := by
    rw [hW]
    have := heap_alloc_new ((w.alloc (.cells #[.slice (some ⟨w.heap.size + 1, 0, none⟩) 2 2, .slice (some ⟨w.heap.size + 1 + 1, 0, none⟩) 2 2, .int .i64 7] 26)).alloc (.cells #[.string ⟨#[120]⟩, .string ⟨#[97, 32, 98]⟩, .string ⟨#[121]⟩, .string ⟨#[]⟩] 44)) (.cells #[.string ⟨#[49]⟩, .string ⟨#[50, 32, 51]⟩] 9)
    simp only [World.size_alloc] at this
    exact this
  rw [← hW]
  clear hW
  have c0 : W.cell? ⟨w.heap.size, 0, none⟩ = some (.slice (some ⟨w.heap.size + 1, 0, none⟩) 2 2) := by rw [hA.cell]; rfl
  have c1 : W.cell? ⟨w.heap.size, 1, none⟩ = some (.slice (some ⟨w.heap.size + 1 + 1, 0, none⟩) 2 2) := by rw [hA.cell]; rfl
  have c2 : W.cell? ⟨w.heap.size, 2, none⟩ = some (.int .i64 7) := by rw [hA.cell]; rfl
  have HF : Hid ((∀ B, VarsAt W B (.agg #[.slice (some ⟨w.heap.size + 1, 0, none⟩) 2 2, .slice (some ⟨w.heap.size + 1 + 1, 0, none⟩) 2 2, .int .i64 7]) varsV) ∧ Below w.heap.size w W) := by
    refine hid ⟨fun B => ⟨rfl, _, _, 2, rfl, ⟨rfl, .inr ⟨w.heap.size + 1, 2, _, rfl, Nat.zero_le _, hA1, by decide, by unfold maxLen; omega, rfl, rfl⟩⟩, .inr ⟨_, rfl⟩, rfl, fun _ => ⟨w.heap.size + 1 + 1, 0, _, (0, 0), rfl, hA2, fun j u hj => ?_⟩⟩, hBW⟩
    rw [Nat.zero_add, ← Array.getElem?_toList]
    exact hj
  clear hA hA1 hA2 hBW
  simp [bodyPost, results, go_sem, c0, c1, c2]
  exact HF.out
/-- A word in memory, however deep. -/
def PA (w : World) (A : Option Addr) (ps : List PartV) : Prop := ∀ n, PAt n w A ps
theorem PA.below {w w' : World} {A : Option Addr} {ps : List PartV} (h : PA w A ps) (hb : Below w.heap.size w w') : PA w' A ps := fun n => (h n).below hb
theorem PA.nil (w : World) (A : Option Addr) : PA w A [] := fun n => PAt.nil n w A
theorem PA.mk {w : World} {b : Nat} {cs : Array Value} (l : List PartL) (h : At w b 47 cs) (hc : cs.toList = l.flatMap PartL.cells) (hs : ∀ x ∈ l, PA w x.A x.p.word ∧ BodyAt w x.B x.p.body) : PA w (some ⟨b, 0, none⟩) (l.map PartL.p)
  | 0 => trivial
  | n + 1 => PAt.mk l h hc fun x hx => ⟨(hs x hx).1 n, (hs x hx).2⟩
/-- What stands in memory. -/
structure KI (w0 w : World) (vb : Nat) (vL : Value) (AA : Option Addr) (cA : Nat) (l : List (Option Addr × List PartV)) : Prop where
  bel : Below w0.heap.size w0 w
  box : At w vb 26 #[vL, .slice AA 2 cA, .int .i64 7]
  vars : ∀ B, VarsAt w B (.agg #[vL, .slice AA 2 cA, .int .i64 7]) varsV
  words : ∀ x ∈ l, PA w x.1 x.2
theorem KI.below {w0 w w' : World} {vb : Nat} {vL : Value} {AA : Option Addr} {cA : Nat} {l : List (Option Addr × List PartV)} (h : KI w0 w vb vL AA cA l) (hb : Below w.heap.size w w') : KI w0 w' vb vL AA cA l :=
  ⟨h.bel.trans (hb.mono h.bel.size), h.box.below hb h.box.lt, fun B => (h.vars B).below hb, fun x hx => (h.words x hx).below hb⟩
theorem KI.snoc {w0 w : World} {vb : Nat} {vL : Value} {AA : Option Addr} {cA : Nat} {l : List (Option Addr × List PartV)} {A : Option Addr} {ps : List PartV} (h : KI w0 w vb vL AA cA l) (hp : PA w A ps) : KI w0 w vb vL AA cA (l ++ [(A, ps)]) :=
  ⟨h.bel, h.box, h.vars, fun x hx => by
    rw [List.mem_append, List.mem_singleton] at hx
    rcases hx with hx | rfl
    · exact h.words x hx
    · exact hp⟩
/-- The table of words and answers. -/
def rowC (x : Option Addr × (List PartV × Str)) : List Value := [.slice x.1 x.2.1.length x.2.1.length, .string ⟨x.2.2.toArray⟩]
theorem rowC_get : ∀ (l : List (Option Addr × (List PartV × Str))) (i : Nat) (x : Option Addr × (List PartV × Str)), l[i]? = some x → (l.flatMap rowC)[i * 2]? = some (.slice x.1 x.2.1.length x.2.1.length) ∧ (l.flatMap rowC)[i * 2 + 1]? = some (.string ⟨x.2.2.toArray⟩)
  | [], _, _, h => by simp at h
  | y :: l, 0, x, h => by
    obtain rfl : y = x := by simpa using h
    exact ⟨rfl, rfl⟩
  | y :: l, i + 1, x, h => by
    have hl : (rowC y).length = 2 := rfl
    obtain ⟨h1, h2⟩ := rowC_get l i x (by simpa using h)
    rw [List.flatMap_cons, List.getElem?_append_right (by rw [hl]; omega), List.getElem?_append_right (by rw [hl]; omega), hl, show (i + 1) * 2 - 2 = i * 2 by omega, show (i + 1) * 2 + 1 - 2 = i * 2 + 1 by omega]
    exact ⟨h1, h2⟩
structure TabAt (w : World) (b : Nat) (l : List (Option Addr × (List PartV × Str))) : Prop where
  len : l.length = 25
  rows : l.map Prod.snd = rowsK
  cells : ∃ cs, At w b 53 cs ∧ cs.toList = l.flatMap rowC
  words : ∀ x ∈ l, PA w x.1 x.2.1
theorem words_of {w : World} {l : List (Option Addr × List PartV)} {L : List (Option Addr × (List PartV × Str))} (h : ∀ x ∈ l, PA w x.1 x.2) (hz : L.map (fun x => (x.1, x.2.1)) = (none, []) :: l) : ∀ x ∈ L, PA w x.1 x.2.1 := by
  intro x hx
  have hm : (x.1, x.2.1) ∈ L.map (fun x => (x.1, x.2.1)) := List.mem_map_of_mem hx
  rw [hz] at hm
  rcases List.mem_cons.1 hm with h1 | h1
  · rw [Prod.mk.injEq] at h1
    rw [h1.1, h1.2]
    exact PA.nil _ _
  · exact h _ h1
theorem TabAt.at_ {w : World} {b : Nat} {l : List (Option Addr × (List PartV × Str))} (h : TabAt w b l) {i : Nat} (hi : i < 25) :
    ∃ A ps want, w.cell? ⟨b, i * 2, none⟩ = some (.slice A ps.length ps.length) ∧ w.cell? ⟨b, i * 2 + 1, none⟩ = some (.string ⟨want.toArray⟩) ∧ PA w A ps ∧ saidO (evalW 20 ps varsV) = want ∧ WB 20 ps varsV := by
  obtain ⟨x, hx⟩ : ∃ x, l[i]? = some x := ⟨_, List.getElem?_eq_getElem (by rw [h.len]; exact hi)⟩
  obtain ⟨cs, h1, h2⟩ := h.cells
  obtain ⟨g1, g2⟩ := rowC_get l i x hx
  have hm := List.mem_of_getElem? hx
  obtain ⟨r1, r2⟩ := row_ok (r := x.2) (by rw [← h.rows]; exact List.mem_map_of_mem hm)
  refine ⟨x.1, x.2.1, x.2.2, ?_, ?_, h.words x hm, r1, r2⟩
  · rw [h1.cell, ← Array.getElem?_toList, h2]; exact g1
  · rw [h1.cell, ← Array.getElem?_toList, h2]; exact g2
end Go.Proofs.YtklihdlfbhgpeaaDoor
