/-
  What the expander is to do with a word, as a premise; the walks of word, other.
-/
import Derived.Test.YtklihdlfbhgpeaaDoorE9
namespace Go.Proofs.YtklihdlfbhgpeaaDoor
open Go.RowKit
set_option linter.unusedVariables false

theorem FldOut.mono {w : World} {P Q : Nat → Prop} {v : Value} {F : Flds} (h : FldOut w P v F) (hm : ∀ b, b < w.heap.size → P b → Q b) : FldOut w Q v F := by
  obtain ⟨A, c, rows, h1, h2, h3, h4⟩ := h.row
  refine ⟨A, c, rows, h1, h2, fun h0 b off e => hm b ?_ (h3 h0 b off e), h4.mono hm⟩
  obtain ⟨b', off', cur, fz, e', hb, _⟩ := h2.2 h0
  rw [e] at e'
  injection e' with e'
  injection e' with e1 _
  exact e1 ▸ (Array.getElem?_eq_some_iff.1 hb).1
theorem fldOut_nil (w : World) (P : Nat → Prop) : FldOut w P (.slice none 0 0) [] := ⟨none, 0, [], rfl, TR.nil, fun h => absurd h (by simp), trivial⟩
/-- A territory less what a call has made. -/
abbrev TC (T : Nat → Prop) (a b k : Nat) : Prop := T k ∧ k < a ∨ b ≤ k
theorem FieldsAt.kwLess {M : Nat → TypeId → Prop} {w w' : World} {T : Nat → Prop} {fb Eb : Nat} {F : Flds} {deep : Int} (h : FieldsAt w T fb Eb F deep) (hk : Kw M w w') (hm : ∀ k t, k < w.heap.size → T k → fldT t → ¬ M k t) : FieldsAt w' (TC T w.heap.size w'.heap.size) fb Eb F deep := by
  have h' := h.kw hk hm
  obtain ⟨up, own, v, X, y, prev, lv, h1, h2, h3, h4, h5, h6, h7⟩ := h
  refine ⟨fun k hk => .inr hk, .inl ⟨own, h2.lt⟩, v, X, y, prev, lv, h1, hk.at_ h2 (hm _ _ h2.lt own (.inl rfl)), own_kw h3 hk fun r hr => ?_, fun r hr => .inl ⟨h4 r hr, (h3.lt r hr).2⟩, own_kw h5 hk fun r hr => ?_, fun r hr => .inl ⟨h6 r hr, (h5.lt r hr).2⟩, ?_⟩
  · exact hm _ _ (h3.lt r hr).2 (h4 r hr) (.inr (.inl rfl))
  · exact hm _ _ (h5.lt r hr).2 (h6 r hr) (.inr (.inr rfl))
  · exact (RowsAt.kw (P := fun b => b < w.heap.size ∧ (T b ∧ lv.ownBlock ≠ some b)) hk (fun b hb => hm _ _ hb.1 hb.2.1 (.inr (.inr rfl))) (h7.mono fun b hb hh => ⟨hb, hh⟩)).mono fun b _ hh => ⟨.inl ⟨hh.2.1, hh.1⟩, hh.2.2⟩
theorem FieldsAt.wider {w : World} {T T' : Nat → Prop} {fb Eb : Nat} {F : Flds} {deep : Int} (h : FieldsAt w T' fb Eb F deep) (ht : ∀ k, T' k → T k) : FieldsAt w T fb Eb F deep :=
  h.less (fun k _ => ht k) fun k hk => ht k (h.up k hk)
/-- What a word may cost. -/
structure WB (n : Nat) (ps : List PartV) (σ : EnvV) : Prop where
  ok : EnvOk σ
  wt : costW n ps ≤ 99999999
  seen : σ.seen.length + costW n ps ≤ 500000000
  vars : σ.vars.length + costW n ps ≤ 500000000
/-- What a part may cost behind what is asked for it. -/
structure PD (n : Nat) (p : PartV) (σ : EnvV) (F : Flds) : Prop where
  ok : EnvOk σ
  wt : wtF F + (900 + p.text.length + costW n p.word) ≤ 200000000
  sub : costW n p.word ≤ 99999999
  seen : σ.seen.length + (900 + costW n p.word) ≤ 500000000
  vars : σ.vars.length + (900 + costW n p.word) ≤ 500000000
theorem PD.wb {n : Nat} {p : PartV} {σ : EnvV} {F : Flds} (h : PD n p σ F) : WB n p.word σ := ⟨h.ok, h.sub, by have := h.seen; omega, by have := h.vars; omega⟩
/-- The expander does as it should with a word that has so many depths left. -/
def ExpOk [Inhabited LowT] (n : Nat) : Prop := ∀ (S : Nat → Prop) (Eb : Nat) (σ : EnvV) (ps : List PartV) (A : Option Addr) (c : Nat) (d : Int) (w : World), EnvAt w S Eb σ → (∀ k, k ≤ lowN → ¬ S k) → Tab w → PAt n w A ps → WB n ps σ → d = 21 - (n : Int) →
  Calls Tryd.prog 18 #[.slice A ps.length c, .iface 28 (.pointer (some ⟨Eb, 0, none⟩)), .int .i64 d] w fun e w' => ∃ v, e = .returned (.tuple #[v, .int .i64 (evalW n ps σ).e]) ∧
    ((evalW n ps σ).e = 0 → FldOut w' (fun b => w.heap.size ≤ b) v (evalW n ps σ).F) ∧ ((evalW n ps σ).e ≠ 0 → v = .slice none 0 0) ∧ EnvAt w' S Eb (evalW n ps σ).s ∧ Kw (ME S) w w'
theorem PAt.below [Inhabited LowT] {w w' : World} (hb : Below w.heap.size w w') {n : Nat} {A : Option Addr} {ps : List PartV} (h : PAt n w A ps) : PAt n w' A ps := h.kw (M := fun _ _ => False) (Kw.below hb) (fun _ h => h) (fun _ h => h) (fun _ _ _ h => h)
theorem St.low_lt [Inhabited LowT] {w : World} {S T : Nat → Prop} {Eb fb : Nat} {σ : EnvV} {F : Flds} {deep : Int} (h : St w S T Eb fb σ F deep) : lowN < w.heap.size := by
  have h1 : ¬ Eb ≤ lowN := fun hk => h.S0 Eb hk h.env.own
  obtain ⟨vL, AA, cA, vS, h2, _⟩ := h.env.at_
  have := h2.lt
  omega
set_option maxRecDepth 100000 in
set_option maxHeartbeats 4000000 in
theorem word_any [Inhabited LowT] (n : Nat) (hE : ExpOk n) (S T : Nat → Prop) (Eb fb : Nat) (σ : EnvV) (F : Flds) (deep : Int) (p : PartV) (A : Option Addr) (c : Nat) (B : Option Addr) (w : World) (h : St w S T Eb fb σ F deep) (hb : PD n p σ F) (hp : PAt n w A p.word)
    (hd : deep + 1 = 21 - (n : Int)) (hd0 : 0 ≤ deep) (hd1 : deep ≤ 20) :
    Calls Tryd.prog 41 #[.pointer (some ⟨fb, 0, none⟩), pv p A c B] w fun e w' => ∃ v, e = .returned (.tuple #[v, .int .i64 (evalW n p.word σ).e]) ∧
      ((evalW n p.word σ).e = 0 → FldOut w' (fun b => w.heap.size ≤ b ∧ b < w'.heap.size) v (evalW n p.word σ).F) ∧ ((evalW n p.word σ).e ≠ 0 → v = .slice none 0 0) ∧ St w' S (TC T w.heap.size w'.heap.size) Eb fb (evalW n p.word σ).s F deep ∧ Kw (ME S) w w' := by
  obtain ⟨v, c0, c1, c2, hlt⟩ := h.cells
  have H := hid h
  have HP := hid hp
  have HW := hid hb.wb
  have HE := hid hE
  clear h hp hb hE
  have hwr : IntKind.i64.wrap (21 - (n : Int)) = 21 - (n : Int) := IntWalk.i64_in _ (by omega)
  dsimp only [pv]
  go_enter Tryd.func41, Tryd.ntmps41
  go_wp2_with fail
  have hAt : At (w.alloc (.cells #[.int .i64 p.kind, .string ⟨p.text.toArray⟩, .string ⟨p.op.toArray⟩, .bool p.q, .slice A p.word.length c, .pointer B] 47)) w.heap.size 47 #[.int .i64 p.kind, .string ⟨p.text.toArray⟩, .string ⟨p.op.toArray⟩, .bool p.q, .slice A p.word.length c, .pointer B] := heap_alloc_new w _
  have hB2 : Below w.heap.size w (w.alloc (.cells #[.int .i64 p.kind, .string ⟨p.text.toArray⟩, .string ⟨p.op.toArray⟩, .bool p.q, .slice A p.word.length c, .pointer B] 47)) := (Below.refl _ _).alloc (Nat.le_refl _) _
  have HB2 := hid (below_drewN' hB2 1)
  clear hAt hB2
  go_region_with (go_at_call 18; refine (HE.out S Eb σ p.word A c _ _ (H.out.below HB2.out).env H.out.S0 (H.out.below HB2.out).tab (HP.out.below HB2.out) HW.out (by omega)).mono ?_; rintro e w3 ⟨v, rfl, hF3, hN3, hE3, hK3⟩)
  all_goals
    have hK4 : Kw (ME S) w w3 := (Kw.below HB2.out).trans hK3
    have hS4 : St w3 S (TC T w.heap.size w3.heap.size) Eb fb (evalW n p.word σ).s F deep := by
      have h1 := H.out.kwE hK4 hE3
      have := hK4.size
      exact ⟨h1.env, H.out.fld.kwLess hK4 (fun k t _ _ ht hh => by rcases ht with rfl | rfl | rfl <;> exact absurd hh.2 (by decide)), h1.tab, h1.S0, fun k hk h => h.elim (fun h => h1.T0 k hk h.1) (fun h => by have hl := H.out.low_lt; omega)⟩
    have HF := hid (And.intro hF3 (And.intro hN3 (And.intro hS4 hK4)))
    clear hF3 hN3 hE3 hK3 hS4 hK4
    go_wp2_with fail
    go_ret2
    refine ⟨v, rfl, fun h0 => (HF.out.1 h0).mono fun b hb hh => ⟨?_, hb⟩, HF.out.2.1, HF.out.2.2.1, HF.out.2.2.2⟩
    have := HB2.out.size
    simp at hh
    omega
end Go.Proofs.YtklihdlfbhgpeaaDoor
