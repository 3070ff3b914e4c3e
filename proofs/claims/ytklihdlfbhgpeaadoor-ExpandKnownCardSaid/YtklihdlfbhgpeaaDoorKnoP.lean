/-
  The chapter's examples: what each word comes to, reckoned by the kernel. No program in sight.
-/
import Derived.Test.YtklihdlfbhgpeaaDoorE21
namespace Go.Proofs.YtklihdlfbhgpeaaDoor
open Go.RowKit
set_option linter.unusedVariables false

def cmdV (name : Str) (no : Bool) : CmdV := ⟨name, no⟩
def subV (q : Bool) (b : Option CmdV) : PartV := .mk 3 [] [] q [] b
/-- The words, and what each comes to. -/
def rowsK : List (List PartV × Str) := [
  ([], [91, 93]),
  ([parV [42] [] false []], [91, 40, 49, 41, 93, 91, 40, 50, 32, 51, 41, 93]),
  ([quoV [97], parV [64] [] true []], [91, 39, 97, 39, 39, 49, 39, 93, 91, 39, 50, 32, 51, 39, 93]),
  ([parV [42] [] true []], [91, 39, 49, 32, 50, 32, 51, 39, 93]),
  ([parV [122] [58, 45] false [litV [113, 32, 114]]], [91, 40, 113, 32, 114, 41, 93]),
  ([parV [121] [45] false [litV [113]]], [91, 40, 41, 93]),
  ([parV [121] [58, 43] true [quoV [113]]], [91, 93]),
  ([parV [121] [43] true [quoV [113]]], [91, 39, 113, 39, 93]),
  ([parV [120] [35] false [litV [97, 42]]], [91, 40, 32, 98, 41, 93]),
  ([parV [120] [35, 35] false [litV [97, 42]]], [91, 40, 41, 93]),
  ([parV [120] [37, 37] false [.mk 1 [32] [] false [] none, litV [42]]], [91, 40, 97, 41, 93]),
  ([parV [120] [108, 101, 110] false []], [91, 40, 51, 41, 93]),
  ([parV [64] [108, 101, 110] true [], parV [35] [] false [], parV [63] [] false []], [91, 39, 50, 39, 40, 50, 41, 40, 55, 41, 93]),
  ([parV [49] [] false [], parV [50] [] true [], parV [51] [] false [], parV [51] [45] false [litV [107]]], [91, 40, 49, 41, 39, 50, 32, 51, 39, 40, 41, 40, 107, 41, 93]),
  ([parV [122] [61] false [parV [64] [] true []], parV [122] [] true []], [91, 40, 49, 32, 50, 32, 51, 41, 39, 49, 32, 50, 32, 51, 39, 93]),
  ([parV [122] [58, 45] true [parV [64] [] true [], quoV [101]]], [91, 39, 49, 39, 93, 91, 39, 50, 32, 51, 39, 39, 101, 39, 93]),
  ([parV [122] [63] false []], [33, 99]),
  ([parV [121] [58, 63] false []], [33, 99]),
  ([parV [121] [63] false []], [91, 40, 41, 93]),
  ([parV [49] [61] false [litV [107]]], [91, 40, 49, 41, 93]),
  ([parV [57] [61] false [litV [107]]], [33, 99]),
  ([parV [120] [33] false []], [33, 99]),
  ([.mk 4 [] [] false [] none], [33, 99]),
  ([subV false (some (cmdV [111, 32, 107] false)), subV true (some (cmdV [111, 32, 107] false)), subV false none], [91, 40, 111, 32, 107, 41, 39, 111, 32, 107, 39, 40, 41, 93]),
  ([subV false (some (cmdV [] true))], [33, 111])]
/-- One test for all. -/
def okK (r : List PartV × Str) : Bool := saidO (evalW 20 r.1 varsV) == r.2 && decide (costW 20 r.1 ≤ 99999)
set_option maxRecDepth 100000 in
theorem rowsK_ok : rowsK.all okK = true := by kernel_rfl
theorem row_ok {r : List PartV × Str} (h : r ∈ rowsK) : saidO (evalW 20 r.1 varsV) = r.2 ∧ WB 20 r.1 varsV := by
  have := List.all_eq_true.1 rowsK_ok r h
  simp only [okK, Bool.and_eq_true, beq_iff_eq, decide_eq_true_eq] at this
  exact ⟨this.1, wb_small varsV_ok (by omega) (by decide) (by decide)⟩
/-- The deep word. -/
def deepV : Nat → List PartV
  | 0 => [litV [97]]
  | k + 1 => [parV [122] [45] false (deepV k)]
def noneV : EnvV := ⟨[], [], 0, []⟩
set_option maxRecDepth 100000 in
theorem deep19_said : saidO (evalW 20 (deepV 19) noneV) = [91, 40, 97, 41, 93] := by kernel_rfl
set_option maxRecDepth 100000 in
theorem deep20_said : saidO (evalW 20 (deepV 20) noneV) = [33, 100] := by kernel_rfl
theorem all_said : saidO (evalW 20 [parV [64] [] true []] noneV) = [91, 93] := by kernel_rfl
theorem noneV_ok : EnvOk noneV := ⟨by decide, by decide, by decide, by decide, by decide⟩
theorem deep_wb (k : Nat) (h : costW 20 (deepV k) ≤ 99999999) : WB 20 (deepV k) noneV := wb_small noneV_ok h (by decide) (by decide)
set_option maxRecDepth 100000 in
theorem deep19_wb : WB 20 (deepV 19) noneV := deep_wb 19 (by decide +kernel)
set_option maxRecDepth 100000 in
theorem deep20_wb : WB 20 (deepV 20) noneV := deep_wb 20 (by decide +kernel)
end Go.Proofs.YtklihdlfbhgpeaaDoor
