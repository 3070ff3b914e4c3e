/-
  The walks of lit, quoted, Clip.
-/
import Derived.Test.YtklihdlfbhgpeaaDoorSt
import Derived.Test.YtklihdlfbhgpeaaDoorTail
namespace Go.Proofs.YtklihdlfbhgpeaaDoor
open Go.RowKit
set_option linter.unusedVariables false

theorem St.cells [Inhabited LowT] {w : World} {S T : Nat → Prop} {Eb fb : Nat} {σ : EnvV} {F : Flds} {deep : Int} (h : St w S T Eb fb σ F deep) :
    ∃ v, w.cell? ⟨fb, 0, none⟩ = some (.iface 28 (.pointer (some ⟨Eb, 0, none⟩))) ∧ w.cell? ⟨fb, 1, none⟩ = some v ∧ w.cell? ⟨fb, 2, none⟩ = some (.int .i64 deep) ∧ fb < w.heap.size := by
  obtain ⟨v, X, y, prev, lv, h1, h2, _⟩ := h.fld.at_
  exact ⟨v, by rw [h2.cell]; rfl, by rw [h2.cell]; rfl, by rw [h2.cell]; rfl, h2.lt⟩
theorem below_drewN' {w w1 : World} (h : Below w.heap.size w w1) (n : Nat) : Below w.heap.size w (w1.drewN n) := h.trans ⟨rfl, rfl, rfl, Nat.le_refl _, fun _ _ => rfl⟩
set_option maxRecDepth 100000 in
set_option maxHeartbeats 1000000 in
theorem lit_any [Inhabited LowT] (S T : Nat → Prop) (Eb fb : Nat) (σ : EnvV) (F : Flds) (deep : Int) (p : PartV) (A : Option Addr) (c : Nat) (B : Option Addr) (w : World) (h : St w S T Eb fb σ F deep) (hb : wtF F ≤ 400000000) :
    Calls Tryd.prog 19 #[.pointer (some ⟨fb, 0, none⟩), pv p A c B] w fun e w' => e = .returned (.int .i64 0) ∧ St w' S T Eb fb σ (joinF F [[⟨p.text, false, decide (1 < deep)⟩]]) deep ∧ Kw (MA S T) w w' := by
  have hn : F.length ≤ 1000000000 := Nat.le_trans (len_wtF F) (by omega)
  have hy : (F.getLastD []).length ≤ 1000000000 := Nat.le_trans (last_wtF F) (by omega)
  obtain ⟨v, c0, c1, c2, hlt⟩ := h.cells
  have H := hid h
  clear h
  dsimp only [pv]
  go_enter Tryd.func19, Tryd.ntmps19
  go_wp2_with fail
  refine wp_region_quiet_tail 9 (by kernel_rfl) (by kernel_rfl) ?_
  simp only [List.take_succ_cons, List.take_zero, List.drop_succ_cons, List.drop_zero]
  repeat (go_big_quiet_step (fail))
  refine wpQuiet_nil ?_
  intro w2 hw'
  obtain ⟨nr, hw2⟩ := hw'
  have hB2 : Below w.heap.size w w2 := by rw [hw2]; exact below_drewN' ((Below.refl _ _).alloc (Nat.le_refl _) _) nr
  clear hw2
  have HB := hid hB2
  go_wp2_with fail
  refine (put_any T fb Eb F deep ⟨p.text, false, decide (1 < deep)⟩ w2 (H.out.below hB2).fld hn hy).mono ?_
  rintro e w3 ⟨rfl, h3, hk⟩
  go_wp2_with fail
  go_ret
  exact ⟨rfl, (H.out.below HB.out).kwF hk h3, (Kw.below HB.out).trans (KwA.f hk)⟩
set_option maxRecDepth 100000 in
set_option maxHeartbeats 1000000 in
theorem quoted_any [Inhabited LowT] (S T : Nat → Prop) (Eb fb : Nat) (σ : EnvV) (F : Flds) (deep : Int) (p : PartV) (A : Option Addr) (c : Nat) (B : Option Addr) (w : World) (h : St w S T Eb fb σ F deep) (hb : wtF F ≤ 400000000) :
    Calls Tryd.prog 20 #[.pointer (some ⟨fb, 0, none⟩), pv p A c B] w fun e w' => e = .returned (.int .i64 0) ∧ St w' S T Eb fb σ (joinF F [[⟨p.text, true, false⟩]]) deep ∧ Kw (MA S T) w w' := by
  have hn : F.length ≤ 1000000000 := Nat.le_trans (len_wtF F) (by omega)
  have hy : (F.getLastD []).length ≤ 1000000000 := Nat.le_trans (last_wtF F) (by omega)
  have H := hid h
  clear h
  dsimp only [pv]
  go_enter Tryd.func20, Tryd.ntmps20
  go_wp2_with fail
  have hB2 : Below w.heap.size w (w.alloc (.cells #[.int .i64 p.kind, .string ⟨p.text.toArray⟩, .string ⟨p.op.toArray⟩, .bool p.q, .slice A p.word.length c, .pointer B] 47)) := (Below.refl _ _).alloc (Nat.le_refl _) _
  have HB := hid hB2
  refine (put_any T fb Eb F deep ⟨p.text, true, false⟩ _ (H.out.below hB2).fld hn hy).mono ?_
  rintro e w3 ⟨rfl, h3, hk⟩
  go_wp2_with fail
  go_ret
  exact ⟨rfl, (H.out.below HB.out).kwF hk h3, (Kw.below HB.out).trans (KwA.f hk)⟩
set_option maxRecDepth 100000 in
set_option maxHeartbeats 1000000 in
theorem clip_any (A : Option Addr) (n c : Nat) (hc : n ≤ c) (hn : n ≤ 1000000000) (w : World) :
    Calls Tryd.prog 23 #[.slice A n c] w fun e w' => e = .returned (.slice A n n) ∧ w' = w := by
  go_enter Tryd.func23, Tryd.ntmps23
  go_wp2_with fail
  go_ret
  exact ⟨rfl, rfl⟩
end Go.Proofs.YtklihdlfbhgpeaaDoor
