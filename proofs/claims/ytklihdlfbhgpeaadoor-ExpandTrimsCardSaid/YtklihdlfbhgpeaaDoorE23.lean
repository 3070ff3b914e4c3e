/-
  What the closure of ExpandTrims answers.
-/
import Derived.Test.YtklihdlfbhgpeaaDoorE22
namespace Go.Proofs.YtklihdlfbhgpeaaDoor
open Go.RowKit
set_option linter.unusedVariables false

theorem ask_v (op s : Str) : askV [118] op (tvar s) = ⟨s, true, [], colon op && s == []⟩ := rfl
theorem trim_ans (op s : Str) (ws : List PartV) (g : List RunV) (hop : opOf op = some .trim) (hw : ∀ σ, (evalW 19 ws σ).e = 0 ∧ (evalW 19 ws σ).F = [g]) : trimAns (evalW 20 [parV [118] op true ws] (tvar s)) = trimV op g s := by
  have h1 : paramV (evalW 19) (parV [118] op true ws) (tvar s) = tellV true (trimV op g s) (evalW 19 ws ((tvar s).say (askS [118]))).s := by
    unfold paramV
    have e : (parV [118] op true ws).op = op := rfl
    rw [e, hop]
    simp only [doV, trimOut]
    have e2 : (parV [118] op true ws).word = ws := rfl
    have e3 : (parV [118] op true ws).text = [118] := rfl
    have e4 : (parV [118] op true ws).q = true := rfl
    rw [e2, e3, e4, if_pos (hw _).1, (hw _).2]
    have e5 : flatR [g] = g := by simp [flatR]
    rw [e, e5, ask_v]
  have h2 : evalW 20 [parV [118] op true ws] (tvar s) = ⟨0, [[runOf true (trimV op g s)]], (evalW 19 ws ((tvar s).say (askS [118]))).s⟩ := by
    change evalL (evalW 19) (decide (19 < 19)) [parV [118] op true ws] [[]] (tvar s) = _
    have e6 : evalPart (evalW 19) (decide (19 < 19)) (parV [118] op true ws) (tvar s) = paramV (evalW 19) (parV [118] op true ws) (tvar s) := by
      unfold evalPart
      have k2 : (parV [118] op true ws).kind = 2 := rfl
      rw [k2, if_neg (by decide), if_neg (by decide), if_pos rfl]
    simp only [evalL, e6, h1]
    rfl
  rw [h2]
  rfl
theorem ev_star (σ : EnvV) : (evalW 19 [litV [42]] σ).e = 0 ∧ (evalW 19 [litV [42]] σ).F = [[starR true]] := ⟨rfl, rfl⟩
theorem ev_quo (t : Str) (σ : EnvV) : (evalW 19 [quoV t] σ).e = 0 ∧ (evalW 19 [quoV t] σ).F = [[quoR t]] := ⟨rfl, rfl⟩
theorem ev_both (t : Str) (σ : EnvV) : (evalW 19 [litV [42], quoV t] σ).e = 0 ∧ (evalW 19 [litV [42], quoV t] σ).F = [[starR true, quoR t]] := ⟨rfl, rfl⟩
/-- The closure at a word of one part. -/
theorem trimc_star (op s : Str) (vb b : Nat) (w : World) (hop : opOf op = some .trim) (hv : VBox w vb s) (hT : Tab w) (hs : s.length ≤ 60) (hA : At w b 47 #[.int .i64 0, .string ⟨#[42]⟩, .string ⟨#[]⟩, .bool false, .slice none 0 0, .pointer none]) :
    Calls Tryd.prog 15 #[.string ⟨op.toArray⟩, .slice (some ⟨b, 0, none⟩) 1 1, .pointer (some ⟨vb, 0, none⟩)] w fun e w' => e = .returned (.string ⟨(trimV op [starR true] s).toArray⟩) ∧ Below w.heap.size w w' := by
  have h := trimc_any w.heap.size vb op s [litV [42]] (some ⟨b, 0, none⟩) 1 w (Nat.le_refl _) hT.pos hv hT (PAt.mk [⟨litV [42], none, 0, none⟩] hA rfl (by
    intro x hx
    simp only [List.mem_singleton] at hx
    subst hx
    exact ⟨PAt.nil _ _ _, rfl⟩)) hs (by decide)
  rw [trim_ans op s _ _ hop ev_star] at h
  exact h
theorem cost_quo (n : Nat) (t : Str) : costW (n + 1) [quoV t] = 1000 + t.length := by
  rw [costW_cons, costW_nil]
  simp [costP, bodyLen, quoV, PartV.text, PartV.body, PartV.word, costW_nil]
theorem trimc_quo (op s t : Str) (vb b : Nat) (w : World) (hop : opOf op = some .trim) (hv : VBox w vb s) (hT : Tab w) (hs : s.length ≤ 60) (ht : t.length ≤ 20) (hA : At w b 47 #[.int .i64 1, .string ⟨t.toArray⟩, .string ⟨#[]⟩, .bool true, .slice none 0 0, .pointer none]) :
    Calls Tryd.prog 15 #[.string ⟨op.toArray⟩, .slice (some ⟨b, 0, none⟩) 1 1, .pointer (some ⟨vb, 0, none⟩)] w fun e w' => e = .returned (.string ⟨(trimV op [quoR t] s).toArray⟩) ∧ Below w.heap.size w w' := by
  have h := trimc_any w.heap.size vb op s [quoV t] (some ⟨b, 0, none⟩) 1 w (Nat.le_refl _) hT.pos hv hT (PAt.mk [⟨quoV t, none, 0, none⟩] hA rfl (by
    intro x hx
    simp only [List.mem_singleton] at hx
    subst hx
    exact ⟨PAt.nil _ _ _, rfl⟩)) hs (by rw [cost_quo]; omega)
  rw [trim_ans op s _ _ hop (ev_quo t)] at h
  exact h
theorem trimc_both (op s t : Str) (vb b : Nat) (w : World) (hop : opOf op = some .trim) (hv : VBox w vb s) (hT : Tab w) (hs : s.length ≤ 60) (ht : t.length ≤ 20)
    (hA : At w b 47 #[.int .i64 0, .string ⟨#[42]⟩, .string ⟨#[]⟩, .bool false, .slice none 0 0, .pointer none, .int .i64 1, .string ⟨t.toArray⟩, .string ⟨#[]⟩, .bool true, .slice none 0 0, .pointer none]) :
    Calls Tryd.prog 15 #[.string ⟨op.toArray⟩, .slice (some ⟨b, 0, none⟩) 2 2, .pointer (some ⟨vb, 0, none⟩)] w fun e w' => e = .returned (.string ⟨(trimV op [starR true, quoR t] s).toArray⟩) ∧ Below w.heap.size w w' := by
  have h := trimc_any w.heap.size vb op s [litV [42], quoV t] (some ⟨b, 0, none⟩) 2 w (Nat.le_refl _) hT.pos hv hT (PAt.mk [⟨litV [42], none, 0, none⟩, ⟨quoV t, none, 0, none⟩] hA rfl (by
    intro x hx
    simp only [List.mem_cons, List.not_mem_nil, or_false] at hx
    rcases hx with rfl | rfl <;> exact ⟨PAt.nil _ _ _, rfl⟩)) hs (by
      rw [costW_cons, cost_quo]
      have : costP (litV [42]) + costW 18 (litV [42]).word = 1001 := by simp [costP, bodyLen, litV, PartV.text, PartV.body, PartV.word, costW_nil]
      omega)
  rw [trim_ans op s _ _ hop (ev_both t)] at h
  exact h
end Go.Proofs.YtklihdlfbhgpeaaDoor
