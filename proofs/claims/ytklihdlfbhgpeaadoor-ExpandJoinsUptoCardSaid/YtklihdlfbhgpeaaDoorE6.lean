/-
  A word in memory; what the expander does.
-/
import Derived.Test.YtklihdlfbhgpeaaDoorE5
namespace Go.Proofs.YtklihdlfbhgpeaaDoor
open Go.RowKit
set_option linter.unusedVariables false

/-- A part's cells: where its word lies, where its body. -/
def pcs (p : PartV) (A : Option Addr) (c : Nat) (B : Option Addr) : List Value := [.int .i64 p.kind, .string ⟨p.text.toArray⟩, .string ⟨p.op.toArray⟩, .bool p.q, .slice A p.word.length c, .pointer B]
/-- A word's parts in memory, n deep. -/
def PAt [Inhabited LowT] : Nat → World → Option Addr → List PartV → Prop
  | 0, _, _, _ => True
  | n + 1, w, A, ps => 0 < ps.length → ∃ b off cur fz, A = some ⟨b, off, none⟩ ∧ w.heap[b]? = some (.cells cur 47 fz) ∧
      ∀ i, i < ps.length → ∀ p, ps[i]? = some p → ∃ A' c B, (∀ j u, (pcs p A' c B)[j]? = some u → cur[off + i * 6 + j]? = some u) ∧ PAt n w A' p.word ∧ BodyAt w B p.body
theorem PAt.kw [Inhabited LowT] {M : Nat → TypeId → Prop} {w w' : World} (hk : Kw M w w') (h47 : ∀ k, ¬ M k 47) (h60 : ∀ k, ¬ M k 60) (hl : ∀ k t, k ≤ lowN → ¬ M k t) : ∀ {n : Nat} {A : Option Addr} {ps : List PartV}, PAt n w A ps → PAt n w' A ps
  | 0, _, _, _ => trivial
  | n + 1, A, ps, h => fun h0 => by
    obtain ⟨b, off, cur, fz, e, hb, hc⟩ := h h0
    refine ⟨b, off, cur, fz, e, hk.keep b cur 47 fz (h47 b) hb, fun i hi p hp => ?_⟩
    obtain ⟨A', c, B, h1, h2, h3⟩ := hc i hi p hp
    exact ⟨A', c, B, h1, PAt.kw hk h47 h60 hl h2, h3.kw hk h60 hl⟩
end Go.Proofs.YtklihdlfbhgpeaaDoor
