/-
  What a word of quoted parts comes to: its texts, in one field. No program in sight.
-/
import Derived.Test.YtklihdlfbhgpeaaDoorE21
namespace Go.Proofs.YtklihdlfbhgpeaaDoor
open Go.RowKit
set_option linter.unusedVariables false

def nmQ (i : Nat) : Str := [118, UInt8.ofNat (97 + i)]
def opQ (i : Nat) : Str := if i % 4 = 0 then [] else if i % 4 = 1 then [45] else if i % 4 = 2 then [58, 63] else [61]
def neverS : Str := [110, 101, 118, 101, 114]
def bQ (bs : List Str) (i : Nat) : Str := (bs.getD i []).take 40
def uQ (vs : List Str) (i : Nat) : Str := (vs.getD i []).take 80
def pQ (i : Nat) : PartV := parV (nmQ i) (opQ i) true [litV neverS]
def tQ (bs : List Str) (i : Nat) : List PartV := if i < bs.length then [quoV (bQ bs i)] else []
def wQ (bs : List Str) : Nat → List PartV
  | 0 => []
  | i + 1 => wQ bs i ++ tQ bs i ++ [pQ i]
def lQ (vs : List Str) : Nat → List (Str × Str)
  | 0 => []
  | i + 1 => lQ vs i ++ [(nmQ i, uQ vs i)]
def gQ (vs bs : List Str) : Nat → List RunV
  | 0 => []
  | i + 1 => gQ vs bs i ++ (if i < bs.length then [runOf true (bQ bs i)] else []) ++ [runOf true (uQ vs i)]
def bT (bs : List Str) (i : Nat) : Str := if i < bs.length then bQ bs i else []
def sQ (vs bs : List Str) : Nat → Str
  | 0 => []
  | i + 1 => sQ vs bs i ++ bT bs i ++ uQ vs i
def eQ (vs : List Str) (k : Nat) : EnvV := ⟨lQ vs k, [], 0, []⟩
/-- The one part that may say no. -/
def badQ (vs : List Str) (i : Nat) : Prop := i % 4 = 2 ∧ uQ vs i = []
theorem lQ_length (vs : List Str) : ∀ k, (lQ vs k).length = k
  | 0 => rfl
  | k + 1 => by rw [lQ, List.length_append, lQ_length vs k]; rfl
theorem nmQ_inj {i j : Nat} (hi : i < 8) (hj : j < 8) (h : nmQ i = nmQ j) : i = j := by
  simp only [nmQ, List.cons.injEq, and_true, true_and] at h
  have := congrArg UInt8.toNat h
  rw [UInt8.toNat_ofNat', UInt8.toNat_ofNat'] at this
  omega
theorem get_lQ (vs : List Str) {i : Nat} : ∀ k, k ≤ 8 → i < k → getL (lQ vs k) (nmQ i) = some (uQ vs i)
  | 0, _, h => by omega
  | k + 1, h8, h => by
    rw [lQ, getL_snoc]
    by_cases e : k = i
    · subst e; rw [if_pos rfl]
    · rw [if_neg (fun h1 => e (nmQ_inj (by omega) (by omega) h1))]
      exact get_lQ vs k (by omega) (by omega)
theorem ask_nmQ {i : Nat} {σ : EnvV} {u : Str} (op : Str) (h : getL σ.vars (nmQ i) = some u) : askV (nmQ i) op σ = ⟨u, true, [], colon op && u == []⟩ := by
  have e : ask0 (nmQ i) σ = (u, true, []) := by
    unfold ask0
    rw [show digitOf (nmQ i) = none from rfl]
    dsimp only
    rw [if_neg (by simp [nmQ]), if_neg (by simp [nmQ]), if_neg (by simp [nmQ, isAll]), h]
  unfold askV
  rw [e]
  rfl
theorem part_pQ {rec : List PartV → EnvV → Out} {d : Bool} {i : Nat} {σ : EnvV} {u : Str} (h : getL σ.vars (nmQ i) = some u) :
    (¬ (i % 4 = 2 ∧ u = []) → evalPart rec d (pQ i) σ = tellV true u (σ.say (askS (nmQ i)))) ∧ (i % 4 = 2 ∧ u = [] → evalPart rec d (pQ i) σ = ⟨2, [], σ.say (askS (nmQ i))⟩) := by
  have e0 : evalPart rec d (pQ i) σ = paramV rec (pQ i) σ := by
    unfold evalPart
    have k2 : (pQ i).kind = 2 := rfl
    rw [k2, if_neg (by decide), if_neg (by decide), if_pos rfl]
  rw [e0]
  unfold paramV
  have e1 : (pQ i).op = opQ i := rfl
  have e2 : (pQ i).text = nmQ i := rfl
  have e3 : (pQ i).q = true := rfl
  rw [e1, e2, ask_nmQ _ h]
  have hall : isAll (nmQ i) = false := by simp [isAll, nmQ]
  unfold opQ
  by_cases h0 : i % 4 = 0
  · rw [if_pos h0]
    refine ⟨fun _ => ?_, fun hh => by omega⟩
    change plainV (pQ i).text (pQ i).q _ _ = _
    rw [e2, e3]
    unfold plainV
    rw [hall]
    rfl
  · rw [if_neg h0]
    by_cases h1 : i % 4 = 1
    · rw [if_pos h1]
      exact ⟨fun _ => rfl, fun hh => by omega⟩
    · rw [if_neg h1]
      by_cases h2 : i % 4 = 2
      · rw [if_pos h2]
        change (_ → (if (colon [58, 63] && u == []) = true then (⟨2, [], σ.say (askS (nmQ i))⟩ : Out) else tellV true u (σ.say (askS (nmQ i)))) = _) ∧ (_ → (if (colon [58, 63] && u == []) = true then (⟨2, [], σ.say (askS (nmQ i))⟩ : Out) else tellV true u (σ.say (askS (nmQ i)))) = _)
        refine ⟨fun hh => ?_, fun hh => ?_⟩
        · rw [if_neg]
          have : ¬ u = [] := fun k => hh ⟨h2, k⟩
          simp [colon, this]
        · rw [if_pos]
          simp [colon, hh.2]
      · rw [if_neg h2]
        exact ⟨fun _ => rfl, fun hh => absurd hh.1 h2⟩
theorem evalL_tQ (rec : List PartV → EnvV → Out) (d : Bool) (bs : List Str) (i : Nat) (g : List RunV) (σ : EnvV) : evalL rec d (tQ bs i) [g] σ = ⟨0, [g ++ (if i < bs.length then [runOf true (bQ bs i)] else [])], σ⟩ := by
  unfold tQ
  split
  · rfl
  · rw [List.append_nil]; rfl
theorem evalL_wQ (rec : List PartV → EnvV → Out) (d : Bool) (vs bs : List Str) {K : Nat} (hK : K ≤ 8) (σ : EnvV) (hσ : σ.vars = lQ vs K) : ∀ k, k ≤ K → (∀ i, i < k → ¬ badQ vs i) →
    ∃ σ', evalL rec d (wQ bs k) [[]] σ = ⟨0, [gQ vs bs k], σ'⟩ ∧ σ'.vars = σ.vars
  | 0, _, _ => ⟨σ, rfl, rfl⟩
  | k + 1, hk, hn => by
    obtain ⟨σ1, h1, h2⟩ := evalL_wQ rec d vs bs hK σ hσ k (by omega) fun i hi => hn i (by omega)
    refine ⟨σ1.say (askS (nmQ k)), ?_, h2⟩
    have hg : getL σ1.vars (nmQ k) = some (uQ vs k) := by rw [h2, hσ]; exact get_lQ vs K hK (by omega)
    rw [wQ, evalL_append, evalL_append, h1]
    dsimp only
    rw [if_pos rfl, evalL_tQ]
    dsimp only
    rw [if_pos rfl]
    simp only [evalL]
    rw [(part_pQ hg).1 (hn k (by omega))]
    rfl
theorem quoted_ok (vs bs : List Str) {K : Nat} (hK : K ≤ 8) (h : ∀ i, i < K → ¬ badQ vs i) : (evalW 20 (wQ bs K) (eQ vs K)).e = 0 ∧ (evalW 20 (wQ bs K) (eQ vs K)).F = [gQ vs bs K] := by
  obtain ⟨σ', h1, _⟩ := evalL_wQ (evalW 19) (decide (19 < 19)) vs bs hK (eQ vs K) rfl K (Nat.le_refl _) h
  have : evalW 20 (wQ bs K) (eQ vs K) = _ := h1
  rw [this]
  exact ⟨rfl, rfl⟩
theorem quoted_bad (vs bs : List Str) {i : Nat} (hi : i < 8) (h : ∀ j, j < i → ¬ badQ vs j) (hb : badQ vs i) : (evalW 20 (wQ bs (i + 1)) (eQ vs (i + 1))).e = 2 := by
  obtain ⟨σ1, h1, h2⟩ := evalL_wQ (evalW 19) (decide (19 < 19)) vs bs (K := i + 1) (by omega) (eQ vs (i + 1)) rfl i (by omega) h
  have hg : getL σ1.vars (nmQ i) = some (uQ vs i) := by rw [h2]; exact get_lQ vs (i + 1) (by omega) (by omega)
  change (evalL (evalW 19) (decide (19 < 19)) (wQ bs i ++ tQ bs i ++ [pQ i]) [[]] (eQ vs (i + 1))).e = 2
  rw [evalL_append, evalL_append, h1]
  dsimp only
  rw [if_pos rfl, evalL_tQ]
  dsimp only
  rw [if_pos rfl]
  simp only [evalL]
  rw [(part_pQ hg).2 hb]
  rfl
theorem gQ_runs (vs bs : List Str) : ∀ k, (∀ r ∈ gQ vs bs k, r.q = true ∧ r.s = false) ∧ (gQ vs bs k).flatMap RunV.t = sQ vs bs k
  | 0 => ⟨fun r h => absurd h (by simp [gQ]), rfl⟩
  | k + 1 => by
    obtain ⟨h1, h2⟩ := gQ_runs vs bs k
    constructor
    · intro r hr
      rw [gQ, List.mem_append, List.mem_append] at hr
      rcases hr with (hr | hr) | hr
      · exact h1 r hr
      · split at hr
        · rw [List.mem_singleton] at hr; subst hr; exact ⟨rfl, rfl⟩
        · cases hr
      · rw [List.mem_singleton] at hr; subst hr; exact ⟨rfl, rfl⟩
    · rw [gQ, sQ, List.flatMap_append, List.flatMap_append, h2]
      congr 1
      · congr 1
        unfold bT
        split <;> simp [runOf]
      · simp [runOf]
theorem cost_quoQ (n : Nat) (t : Str) : costW (n + 1) [quoV t] = 1000 + t.length := by
  rw [costW_cons, costW_nil]
  simp [costP, bodyLen, quoV, PartV.text, PartV.body, PartV.word, costW_nil]
theorem cost_wQ (bs : List Str) : ∀ k, costW 20 (wQ bs k) ≤ 4000 * k
  | 0 => by rw [wQ, costW_nil]; omega
  | k + 1 => by
    have h1 := cost_wQ bs k
    rw [wQ, costW_append, costW_append]
    have h2 : costW 20 (tQ bs k) ≤ 1040 := by
      unfold tQ
      split
      · rw [show (20 : Nat) = 19 + 1 from rfl, cost_quoQ]
        have : (bQ bs k).length ≤ 40 := by unfold bQ; rw [List.length_take]; omega
        omega
      · rw [costW_nil]; omega
    have h3 : costW 20 [pQ k] = 2007 := rfl
    omega
theorem envOk_eQ (vs : List Str) (k : Nat) : EnvOk (eQ vs k) := by
  refine ⟨?_, by simp [eQ], by simp [eQ], by simp [eQ], by simp [eQ]⟩
  change ∀ v ∈ lQ vs k, v.2.length ≤ 90
  induction k with
  | zero => intro v hv; cases hv
  | succ k ih =>
    intro v hv
    rw [lQ, List.mem_append, List.mem_singleton] at hv
    rcases hv with hv | rfl
    · exact ih v hv
    · change ((vs.getD k []).take 80).length ≤ 90
      rw [List.length_take]
      omega
theorem wb_wQ (vs bs : List Str) {k : Nat} (hk : k ≤ 8) : WB 20 (wQ bs k) (eQ vs k) := by
  have h := cost_wQ bs k
  exact wb_small (envOk_eQ vs k) (by omega) (by simp [eQ]) (by simp only [eQ, lQ_length]; omega)
theorem sQ_len (vs bs : List Str) : ∀ k, (sQ vs bs k).length ≤ 120 * k
  | 0 => by simp [sQ]
  | k + 1 => by
    have h1 := sQ_len vs bs k
    have h2 : (bT bs k).length ≤ 40 := by
      unfold bT
      split
      · unfold bQ; rw [List.length_take]; omega
      · simp
    have h3 : (uQ vs k).length ≤ 80 := by unfold uQ; rw [List.length_take]; omega
    rw [sQ, List.length_append, List.length_append]
    omega
end Go.Proofs.YtklihdlfbhgpeaaDoor
