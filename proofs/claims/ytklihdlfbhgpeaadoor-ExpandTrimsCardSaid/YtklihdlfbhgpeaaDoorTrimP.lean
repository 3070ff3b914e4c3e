/-
  What trimming answers for a star, for a quoted text, and for a star ahead of a quoted text. No program in sight.
-/
import Derived.Test.YtklihdlfbhgpeaaDoorE21
namespace Go.Proofs.YtklihdlfbhgpeaaDoor
open Go.RowKit
set_option linter.unusedVariables false

theorem trimGo_hit (op : Str) (p : List RunV) (s : Str) : ∀ (m i i0 : Nat), i ≤ i0 → i0 < i + m → cutV op p s (kAt op s i0) = true → (∀ j, i ≤ j → j < i0 → cutV op p s (kAt op s j) = false) → trimGo op p s m i = leftV op s (kAt op s i0)
  | 0, i, i0, h1, h2, _, _ => by omega
  | m + 1, i, i0, h1, h2, hc, hn => by
    rw [trimGo]
    by_cases e : i = i0
    · subst e; rw [if_pos hc]
    · rw [if_neg (by rw [hn i (Nat.le_refl _) (by omega)]; simp)]
      exact trimGo_hit op p s m (i + 1) i0 (by omega) (by omega) hc fun j h1 h2 => hn j (by omega) h2
theorem trimGo_none (op : Str) (p : List RunV) (s : Str) : ∀ (m i : Nat), (∀ j, i ≤ j → j < i + m → cutV op p s (kAt op s j) = false) → trimGo op p s m i = s
  | 0, i, _ => rfl
  | m + 1, i, hn => by
    rw [trimGo, if_neg (by rw [hn i (Nat.le_refl _) (by omega)]; simp)]
    exact trimGo_none op p s m (i + 1) fun j h1 h2 => hn j (by omega) (by omega)
theorem trimV_hit {op : Str} {p : List RunV} {s : Str} (i0 : Nat) (h : i0 ≤ s.length) (hc : cutV op p s (kAt op s i0) = true) (hn : ∀ j, j < i0 → cutV op p s (kAt op s j) = false) : trimV op p s = leftV op s (kAt op s i0) :=
  trimGo_hit op p s _ 0 i0 (Nat.zero_le _) (by omega) hc fun j _ h2 => hn j h2
theorem trimV_none {op : Str} {p : List RunV} {s : Str} (hn : ∀ j, j ≤ s.length → cutV op p s (kAt op s j) = false) : trimV op p s = s :=
  trimGo_none op p s _ 0 fun j _ h2 => hn j (by omega)
/-! ## The three patterns -/
def starR (x : Bool) : RunV := ⟨[42], false, x⟩
def quoR (t : Str) : RunV := ⟨t, true, false⟩
theorem chs_quo (t : Str) : chs [quoR t] = t.map (fun b => (b, true)) := by simp [chs, chr, quoR]
theorem match_quo (t s : Str) : matchP (pieces (chs [quoR t])) s = decide (s = t) := by
  have := pieces_quoted t []
  rw [List.append_nil] at this
  rw [chs_quo, this]
  simp only [pieces_nil, List.append_nil]
  exact matchP_lits t s
theorem match_starq (x : Bool) (t s : Str) : matchP (pieces (chs [starR x, quoR t])) s = t.isSuffixOf s := by
  have e : chs [starR x, quoR t] = (42, false) :: t.map (fun b => (b, true)) := by simp [chs, chr, quoR, starR]
  have := pieces_quoted t []
  rw [List.append_nil] at this
  rw [e, match_star (by rfl), this]
  simp only [pieces_nil, List.append_nil]
  exact anyTail_lits t s
theorem match_star1 (x : Bool) (s : Str) : matchP (pieces (chs [starR x])) s = true := by
  have := match_starq x [] s
  have e : chs [starR x, quoR []] = chs [starR x] := by simp [chs, chr, quoR]
  rw [e] at this
  rw [this]
  simp
/-! ## The four operators -/
theorem kAt1 {op : Str} (h : op.length = 1) (s : Str) (i : Nat) : kAt op s i = i := by unfold kAt; rw [if_neg (by omega)]
theorem kAt2 {op : Str} (h : op.length = 2) (s : Str) (i : Nat) : kAt op s i = s.length - i := by unfold kAt; rw [if_pos h]
theorem trim_star1 (op : Str) (x : Bool) (s : Str) (h : op.length = 1) : trimV op [starR x] s = s := by
  rw [trimV_hit 0 (by omega) (by unfold cutV; rw [match_star1]) (fun j hj => by omega), kAt1 h]
  unfold leftV
  split <;> simp
theorem trim_star2 (op : Str) (x : Bool) (s : Str) (h : op.length = 2) : trimV op [starR x] s = [] := by
  rw [trimV_hit 0 (by omega) (by unfold cutV; rw [match_star1]) (fun j hj => by omega), kAt2 h]
  unfold leftV
  split <;> simp
def wantV (s t : Str) : Str := if t.length ≤ s.length ∧ s.take t.length = t then s.drop t.length else s
def endV (s t : Str) : Str := if t.length ≤ s.length ∧ s.drop (s.length - t.length) = t then s.take (s.length - t.length) else s
theorem kAt_le (op s : Str) {i : Nat} (h : i ≤ s.length) : kAt op s i ≤ s.length := by unfold kAt; split <;> omega
theorem kAt_inv (op s : Str) {k : Nat} (h : k ≤ s.length) : ∃ i, i ≤ s.length ∧ kAt op s i = k := by
  unfold kAt
  split
  · exact ⟨s.length - k, by omega, by omega⟩
  · exact ⟨k, h, rfl⟩
theorem kAt_inj (op s : Str) {i j : Nat} (hi : i ≤ s.length) (hj : j ≤ s.length) (h : kAt op s i = kAt op s j) : i = j := by
  unfold kAt at h
  split at h <;> omega
theorem trim_one {op : Str} {p : List RunV} {s : Str} (k : Nat) (hk : k ≤ s.length) (h : ∀ j, j ≤ s.length → (cutV op p s j = true ↔ j = k)) : trimV op p s = leftV op s k := by
  obtain ⟨i0, hi0, he⟩ := kAt_inv op s hk
  rw [← he]
  refine trimV_hit i0 hi0 (by rw [he]; exact (h k hk).2 rfl) fun j hj => ?_
  cases hc : cutV op p s (kAt op s j) with
  | false => rfl
  | true =>
    have := (h _ (kAt_le op s (by omega))).1 hc
    have := kAt_inj op s (by omega) hi0 (this.trans he.symm)
    omega
theorem trim_quo_hash (op t s : Str) (h : hashOp op = true) : trimV op [quoR t] s = wantV s t := by
  have hc : ∀ j, j ≤ s.length → (cutV op [quoR t] s j = true ↔ s.take j = t) := fun j hj => by unfold cutV; rw [match_quo, if_pos h, decide_eq_true_eq]
  unfold wantV
  by_cases hw : t.length ≤ s.length ∧ s.take t.length = t
  · rw [if_pos hw, trim_one t.length hw.1 fun j hj => ?_, leftV, if_pos h]
    rw [hc j hj]
    refine ⟨fun e => ?_, fun e => by rw [e]; exact hw.2⟩
    have := congrArg List.length e
    rw [List.length_take] at this
    omega
  · rw [if_neg hw]
    refine trimV_none fun j hj => ?_
    cases hcj : cutV op [quoR t] s (kAt op s j) with
    | false => rfl
    | true =>
      have e := (hc _ (kAt_le op s hj)).1 hcj
      have hl := congrArg List.length e
      rw [List.length_take] at hl
      have hk := kAt_le op s hj
      exact absurd ⟨by omega, by rw [show t.length = kAt op s j by omega]; exact e⟩ hw
theorem trim_quo_end (op t s : Str) (h : hashOp op = false) : trimV op [quoR t] s = endV s t := by
  have hc : ∀ j, j ≤ s.length → (cutV op [quoR t] s j = true ↔ s.drop (s.length - j) = t) := fun j hj => by unfold cutV; rw [match_quo, if_neg (by rw [h]; simp), decide_eq_true_eq]
  unfold endV
  by_cases hw : t.length ≤ s.length ∧ s.drop (s.length - t.length) = t
  · rw [if_pos hw, trim_one t.length hw.1 fun j hj => ?_, leftV, if_neg (by rw [h]; simp)]
    rw [hc j hj]
    refine ⟨fun e => ?_, fun e => by rw [e]; exact hw.2⟩
    have := congrArg List.length e
    rw [List.length_drop] at this
    omega
  · rw [if_neg hw]
    refine trimV_none fun j hj => ?_
    cases hcj : cutV op [quoR t] s (kAt op s j) with
    | false => rfl
    | true =>
      have e := (hc _ (kAt_le op s hj)).1 hcj
      have hl := congrArg List.length e
      rw [List.length_drop] at hl
      have hk := kAt_le op s hj
      exact absurd ⟨by omega, by rw [show t.length = kAt op s j by omega]; exact e⟩ hw
/-- The text stands at that place. -/
def atP (s t : Str) (i : Nat) : Prop := i + t.length ≤ s.length ∧ (s.drop i).take t.length = t
theorem suffix_at (s t : Str) {k : Nat} (hk : k ≤ s.length) : t.isSuffixOf (s.take k) = true ↔ ∃ i, i + t.length = k ∧ atP s t i := by
  rw [List.isSuffixOf_iff_suffix]
  constructor
  · intro h
    have hl := h.length_le
    rw [List.length_take] at hl
    refine ⟨k - t.length, by omega, by omega, ?_⟩
    have e := List.suffix_iff_eq_drop.1 h
    rw [List.length_take, Nat.min_eq_left hk] at e
    rw [List.take_drop, show k - t.length + t.length = k by omega]
    exact e.symm
  · rintro ⟨i, rfl, h1, h2⟩
    rw [List.suffix_iff_eq_drop, List.length_take, Nat.min_eq_left hk, show i + t.length - t.length = i by omega]
    rw [List.take_drop] at h2
    exact h2.symm
theorem cut_starq (op : Str) (x : Bool) (t s : Str) (h : hashOp op = true) {k : Nat} (hk : k ≤ s.length) : cutV op [starR x, quoR t] s k = true ↔ ∃ i, i + t.length = k ∧ atP s t i := by
  unfold cutV
  rw [match_starq, if_pos h, suffix_at s t hk]
theorem trim_first (op : Str) (x : Bool) (t s : Str) (h : hashOp op = true) (h1 : op.length = 1) (f : Nat) (hf : atP s t f) (hm : ∀ j, j < f → ¬ atP s t j) : trimV op [starR x, quoR t] s = s.drop (f + t.length) := by
  rw [trimV_hit (f + t.length) hf.1 (by rw [kAt1 h1]; exact (cut_starq op x t s h hf.1).2 ⟨f, rfl, hf⟩) fun j hj => ?_, kAt1 h1, leftV, if_pos h]
  rw [kAt1 h1]
  cases hc : cutV op [starR x, quoR t] s j with
  | false => rfl
  | true =>
    obtain ⟨i, hi, ha⟩ := (cut_starq op x t s h (by have := hf.1; omega)).1 hc
    exact absurd ha (hm i (by omega))
theorem trim_last (op : Str) (x : Bool) (t s : Str) (h : hashOp op = true) (h2 : op.length = 2) (f : Nat) (hf : atP s t f) (hm : ∀ j, f < j → ¬ atP s t j) : trimV op [starR x, quoR t] s = s.drop (f + t.length) := by
  have hl := hf.1
  have e : s.length - (s.length - (f + t.length)) = f + t.length := by omega
  rw [trimV_hit (s.length - (f + t.length)) (by omega) (by rw [kAt2 h2, e]; exact (cut_starq op x t s h hl).2 ⟨f, rfl, hf⟩) fun j hj => ?_, kAt2 h2, e, leftV, if_pos h]
  rw [kAt2 h2]
  cases hc : cutV op [starR x, quoR t] s (s.length - j) with
  | false => rfl
  | true =>
    obtain ⟨i, hi, ha⟩ := (cut_starq op x t s h (by omega)).1 hc
    exact absurd ha (hm i (by omega))
theorem trim_nowhere (op : Str) (x : Bool) (t s : Str) (h : hashOp op = true) (hm : ∀ j, ¬ atP s t j) : trimV op [starR x, quoR t] s = s := by
  refine trimV_none fun j hj => ?_
  cases hc : cutV op [starR x, quoR t] s (kAt op s j) with
  | false => rfl
  | true =>
    obtain ⟨i, hi, ha⟩ := (cut_starq op x t s h (kAt_le op s hj)).1 hc
    exact absurd ha (hm i)
end Go.Proofs.YtklihdlfbhgpeaaDoor
