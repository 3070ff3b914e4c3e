/-
  What holds in trim's drawn region while its operations are done in any order. No function is walked here.
-/
import Derived.Test.YtklihdlfbhgpeaaDoorE15
namespace Go.Proofs.YtklihdlfbhgpeaaDoor
open Go.RowKit
set_option linter.unusedVariables false

abbrev U (i : Nat) (D : Nat → Bool) : Nat → Bool := fun j => if j = i then true else D j
abbrev UV (i : Nat) (v : Value) (V : Nat → Value) : Nat → Value := fun j => if j = i then v else V j
structure TJ (w0 w : World) (D : Nat → Bool) (V : Nat → Value) (v : Value) (s : Str) (rs : List RunV) (hs : Nat) : Prop where
  bw : Below w0.heap.size w0 w
  h0 : D 0 = true → V 0 = v
  h1 : D 1 = true → ∃ A c, V 1 = .slice A rs.length c ∧ TR w 40 3 A rs.length (rnv rs)
  h2 : D 2 = true → V 2 = .pointer (some ⟨hs, 6, none⟩)
  h3 : D 3 = true → V 3 = .string ⟨s.toArray⟩
  h4 : D 4 = true → V 4 = .pointer (some ⟨hs, 6, none⟩)
  h5 : D 5 = true → V 5 = .string ⟨s.toArray⟩
  h6 : D 6 = true → V 6 = .int .i64 s.length
  h7 : D 7 = true → ∃ b, V 7 = .pointer (some ⟨b, 0, none⟩) ∧ w0.heap.size ≤ b ∧ ∃ u, At w b 38 #[u] ∧ (D 10 = true → u = V 1)
  h8 : D 8 = true → ∃ b, V 8 = .pointer (some ⟨b, 0, none⟩) ∧ w0.heap.size ≤ b ∧ ∃ u, At w b 9 #[u] ∧ (D 11 = true → u = V 3)
  h9 : D 9 = true → ∃ b, V 9 = .pointer (some ⟨b, 0, none⟩) ∧ w0.heap.size ≤ b ∧ ∃ u, At w b 3 #[u] ∧ (D 12 = true → u = V 6)
  k10 : D 10 = true → D 1 = true ∧ D 7 = true
  k11 : D 11 = true → D 3 = true ∧ D 8 = true
  k12 : D 12 = true → D 6 = true ∧ D 9 = true
section
variable {w0 w w' : World} {D : Nat → Bool} {V : Nat → Value} {v : Value} {s : Str} {rs : List RunV} {hs : Nat}
theorem TJ.world (h : TJ w0 w D V v s rs hs) (hB : Below w.heap.size w w') : TJ w0 w' D V v s rs hs := by
  refine ⟨h.bw.trans (hB.mono h.bw.size), h.h0, fun hd => ?_, h.h2, h.h3, h.h4, h.h5, h.h6, fun hd => ?_, fun hd => ?_, fun hd => ?_, h.k10, h.k11, h.k12⟩
  · obtain ⟨A, c, e, ht⟩ := h.h1 hd
    exact ⟨A, c, e, ht.below hB⟩
  · obtain ⟨b, e, hb, u, ha, hu⟩ := h.h7 hd
    exact ⟨b, e, hb, u, ha.below hB ha.lt, hu⟩
  · obtain ⟨b, e, hb, u, ha, hu⟩ := h.h8 hd
    exact ⟨b, e, hb, u, ha.below hB ha.lt, hu⟩
  · obtain ⟨b, e, hb, u, ha, hu⟩ := h.h9 hd
    exact ⟨b, e, hb, u, ha.below hB ha.lt, hu⟩
theorem TJ.val (h : TJ w0 w D V v s rs hs) (i : Nat) (val : Value) (hi : D i = false) (hlt : i < 10)
    (q0 : i = 0 → val = v) (q1 : i = 1 → ∃ A c, val = .slice A rs.length c ∧ TR w 40 3 A rs.length (rnv rs)) (q2 : i = 2 → val = .pointer (some ⟨hs, 6, none⟩)) (q3 : i = 3 → val = .string ⟨s.toArray⟩) (q4 : i = 4 → val = .pointer (some ⟨hs, 6, none⟩))
    (q5 : i = 5 → val = .string ⟨s.toArray⟩) (q6 : i = 6 → val = .int .i64 s.length) (q7 : i = 7 → ∃ b, val = .pointer (some ⟨b, 0, none⟩) ∧ w0.heap.size ≤ b ∧ ∃ u, At w b 38 #[u])
    (q8 : i = 8 → ∃ b, val = .pointer (some ⟨b, 0, none⟩) ∧ w0.heap.size ≤ b ∧ ∃ u, At w b 9 #[u]) (q9 : i = 9 → ∃ b, val = .pointer (some ⟨b, 0, none⟩) ∧ w0.heap.size ≤ b ∧ ∃ u, At w b 3 #[u]) :
    TJ w0 w (U i D) (UV i val V) v s rs hs := by
  have one : ∀ (k : Nat) (R : Value → Prop), (i = k → R val) → (D k = true → R (V k)) → U i D k = true → R (UV i val V k) := fun k R a b hd => by
    by_cases e : k = i
    · subst e; rw [UV, if_pos rfl]; exact a rfl
    · rw [UV, if_neg e]; exact b (by simpa [U, e] using hd)
  have big : ∀ k, 10 ≤ k → U i D k = true → D k = true := fun k hk hd => by simpa [U, show ¬ k = i by omega] using hd
  have up : ∀ k, D k = true → U i D k = true := fun k hd => by by_cases e : k = i <;> simp [U, e, hd]
  have stay : ∀ k, D k = true → UV i val V k = V k := fun k hd => by
    by_cases e : k = i
    · rw [e, hi] at hd; cases hd
    · rw [UV, if_neg e]
  refine ⟨h.bw, one 0 (· = v) q0 h.h0, one 1 (fun x => ∃ A c, x = .slice A rs.length c ∧ TR w 40 3 A rs.length (rnv rs)) q1 h.h1, one 2 (· = .pointer (some ⟨hs, 6, none⟩)) q2 h.h2, one 3 (· = .string ⟨s.toArray⟩) q3 h.h3, one 4 (· = .pointer (some ⟨hs, 6, none⟩)) q4 h.h4, one 5 (· = .string ⟨s.toArray⟩) q5 h.h5, one 6 (· = .int .i64 s.length) q6 h.h6, ?_, ?_, ?_, fun hd => ?_, fun hd => ?_, fun hd => ?_⟩
  · refine one 7 (fun x => ∃ b, x = .pointer (some ⟨b, 0, none⟩) ∧ w0.heap.size ≤ b ∧ ∃ u, At w b 38 #[u] ∧ (U i D 10 = true → u = UV i val V 1)) (fun e => ?_) (fun hd => ?_)
    · obtain ⟨b, e1, e2, u, e3⟩ := q7 e
      exact ⟨b, e1, e2, u, e3, fun hd => by have := (h.k10 (big 10 (by omega) hd)).2; rw [← e, hi] at this; cases this⟩
    · obtain ⟨b, e1, e2, u, e3, e4⟩ := h.h7 hd
      exact ⟨b, e1, e2, u, e3, fun hd => by rw [stay 1 (h.k10 (big 10 (by omega) hd)).1]; exact e4 (big 10 (by omega) hd)⟩
  · refine one 8 (fun x => ∃ b, x = .pointer (some ⟨b, 0, none⟩) ∧ w0.heap.size ≤ b ∧ ∃ u, At w b 9 #[u] ∧ (U i D 11 = true → u = UV i val V 3)) (fun e => ?_) (fun hd => ?_)
    · obtain ⟨b, e1, e2, u, e3⟩ := q8 e
      exact ⟨b, e1, e2, u, e3, fun hd => by have := (h.k11 (big 11 (by omega) hd)).2; rw [← e, hi] at this; cases this⟩
    · obtain ⟨b, e1, e2, u, e3, e4⟩ := h.h8 hd
      exact ⟨b, e1, e2, u, e3, fun hd => by rw [stay 3 (h.k11 (big 11 (by omega) hd)).1]; exact e4 (big 11 (by omega) hd)⟩
  · refine one 9 (fun x => ∃ b, x = .pointer (some ⟨b, 0, none⟩) ∧ w0.heap.size ≤ b ∧ ∃ u, At w b 3 #[u] ∧ (U i D 12 = true → u = UV i val V 6)) (fun e => ?_) (fun hd => ?_)
    · obtain ⟨b, e1, e2, u, e3⟩ := q9 e
      exact ⟨b, e1, e2, u, e3, fun hd => by have := (h.k12 (big 12 (by omega) hd)).2; rw [← e, hi] at this; cases this⟩
    · obtain ⟨b, e1, e2, u, e3, e4⟩ := h.h9 hd
      exact ⟨b, e1, e2, u, e3, fun hd => by rw [stay 6 (h.k12 (big 12 (by omega) hd)).1]; exact e4 (big 12 (by omega) hd)⟩
  · have := h.k10 (big 10 (by omega) hd); exact ⟨up _ this.1, up _ this.2⟩
  · have := h.k11 (big 11 (by omega) hd); exact ⟨up _ this.1, up _ this.2⟩
  · have := h.k12 (big 12 (by omega) hd); exact ⟨up _ this.1, up _ this.2⟩
/-- A store into one of the three places. -/
theorem TJ.store (h : TJ w0 w D V v s rs hs) (i b : Nat) (t : TypeId) (val : Value) (cs : Array Value) (ha : At w b t cs) (hb : w0.heap.size ≤ b) (any : Value)
    (q : (i = 10 ∧ t = 38 ∧ D 1 = true ∧ D 7 = true ∧ V 7 = .pointer (some ⟨b, 0, none⟩) ∧ val = V 1) ∨ (i = 11 ∧ t = 9 ∧ D 3 = true ∧ D 8 = true ∧ V 8 = .pointer (some ⟨b, 0, none⟩) ∧ val = V 3) ∨ (i = 12 ∧ t = 3 ∧ D 6 = true ∧ D 9 = true ∧ V 9 = .pointer (some ⟨b, 0, none⟩) ∧ val = V 6)) :
    TJ w0 (w.setCell ⟨b, 0, none⟩ val) (U i D) (UV i any V) v s rs hs := by
  have hi : 10 ≤ i := by rcases q with q | q | q <;> omega
  have lo : ∀ k, k < 10 → UV i any V k = V k := fun k hk => by rw [UV, if_neg (by omega)]
  have loD : ∀ k, k < 10 → U i D k = D k := fun k hk => by simp [U, show ¬ k = i by omega]
  have hk : Kw (fun k u => k = b ∧ u = t) w (w.setCell ⟨b, 0, none⟩ val) := (Kw.refl _ w).set ha ⟨rfl, rfl⟩ 0 val
  have ht40 : ¬ (40 = t) := by rcases q with ⟨_, e, _⟩ | ⟨_, e, _⟩ | ⟨_, e, _⟩ <;> rw [e] <;> decide
  refine ⟨⟨h.bw.os, h.bw.tape, h.bw.output, by have := h.bw.size; simp; omega, fun k hk' => ?_⟩, ?_, ?_, ?_, ?_, ?_, ?_, ?_, ?_, ?_, ?_, ?_, ?_, ?_⟩
  · exact (Below.heap_setCell w ⟨b, 0, none⟩ val k (by simp only []; omega)).trans (h.bw.block k hk')
  · rw [loD 0 (by omega), lo 0 (by omega)]; exact h.h0
  · rw [loD 1 (by omega), lo 1 (by omega)]
    intro hd
    obtain ⟨A, c, e, hT⟩ := h.h1 hd
    exact ⟨A, c, e, hT.kw hk fun b' hh => ht40 hh.2⟩
  · rw [loD 2 (by omega), lo 2 (by omega)]; exact h.h2
  · rw [loD 3 (by omega), lo 3 (by omega)]; exact h.h3
  · rw [loD 4 (by omega), lo 4 (by omega)]; exact h.h4
  · rw [loD 5 (by omega), lo 5 (by omega)]; exact h.h5
  · rw [loD 6 (by omega), lo 6 (by omega)]; exact h.h6
  · rw [loD 7 (by omega), lo 7 (by omega), lo 1 (by omega)]
    intro hd
    obtain ⟨b', e1, e2, u, e3, e4⟩ := h.h7 hd
    rcases q with ⟨rfl, rfl, d1, d7, e7, rfl⟩ | ⟨rfl, rfl, _⟩ | ⟨rfl, rfl, _⟩
    · rw [e1] at e7
      injection e7 with e7
      injection e7 with e7
      injection e7 with e7 _
      subst e7
      exact ⟨b', e1, e2, _, e3.set 0 _, fun _ => rfl⟩
    · exact ⟨b', e1, e2, u, hk.at_ e3 (fun hh => absurd hh.2 (by decide)), fun hx => e4 (by simpa [U] using hx)⟩
    · exact ⟨b', e1, e2, u, hk.at_ e3 (fun hh => absurd hh.2 (by decide)), fun hx => e4 (by simpa [U] using hx)⟩
  · rw [loD 8 (by omega), lo 8 (by omega), lo 3 (by omega)]
    intro hd
    obtain ⟨b', e1, e2, u, e3, e4⟩ := h.h8 hd
    rcases q with ⟨rfl, rfl, _⟩ | ⟨rfl, rfl, d1, d7, e7, rfl⟩ | ⟨rfl, rfl, _⟩
    · exact ⟨b', e1, e2, u, hk.at_ e3 (fun hh => absurd hh.2 (by decide)), fun hx => e4 (by simpa [U] using hx)⟩
    · rw [e1] at e7
      injection e7 with e7
      injection e7 with e7
      injection e7 with e7 _
      subst e7
      exact ⟨b', e1, e2, _, e3.set 0 _, fun _ => rfl⟩
    · exact ⟨b', e1, e2, u, hk.at_ e3 (fun hh => absurd hh.2 (by decide)), fun hx => e4 (by simpa [U] using hx)⟩
  · rw [loD 9 (by omega), lo 9 (by omega), lo 6 (by omega)]
    intro hd
    obtain ⟨b', e1, e2, u, e3, e4⟩ := h.h9 hd
    rcases q with ⟨rfl, rfl, _⟩ | ⟨rfl, rfl, _⟩ | ⟨rfl, rfl, d1, d7, e7, rfl⟩
    · exact ⟨b', e1, e2, u, hk.at_ e3 (fun hh => absurd hh.2 (by decide)), fun hx => e4 (by simpa [U] using hx)⟩
    · exact ⟨b', e1, e2, u, hk.at_ e3 (fun hh => absurd hh.2 (by decide)), fun hx => e4 (by simpa [U] using hx)⟩
    · rw [e1] at e7
      injection e7 with e7
      injection e7 with e7
      injection e7 with e7 _
      subst e7
      exact ⟨b', e1, e2, _, e3.set 0 _, fun _ => rfl⟩
  · rw [loD 1 (by omega), loD 7 (by omega)]
    intro hd
    rcases q with ⟨rfl, _, d1, d7, _⟩ | ⟨rfl, _⟩ | ⟨rfl, _⟩
    · exact ⟨d1, d7⟩
    · exact h.k10 (by simpa [U] using hd)
    · exact h.k10 (by simpa [U] using hd)
  · rw [loD 3 (by omega), loD 8 (by omega)]
    intro hd
    rcases q with ⟨rfl, _⟩ | ⟨rfl, _, d1, d7, _⟩ | ⟨rfl, _⟩
    · exact h.k11 (by simpa [U] using hd)
    · exact ⟨d1, d7⟩
    · exact h.k11 (by simpa [U] using hd)
  · rw [loD 6 (by omega), loD 9 (by omega)]
    intro hd
    rcases q with ⟨rfl, _⟩ | ⟨rfl, _⟩ | ⟨rfl, _, d1, d7, _⟩
    · exact h.k12 (by simpa [U] using hd)
    · exact h.k12 (by simpa [U] using hd)
    · exact ⟨d1, d7⟩
end
end Go.Proofs.YtklihdlfbhgpeaaDoor
