/-
  The walks of the expander's small functions: put, run, all, tell, join, flat.
-/
import Derived.Test.YtklihdlfbhgpeaaDoorFld
namespace Go.Proofs.YtklihdlfbhgpeaaDoor
open Go.RowKit
set_option linter.unusedVariables false

theorem infoR : (Tryd.prog.info? 40).map (fun i => (i.zero, i.size, i.bytes)) = some (some (.agg #[.string ⟨#[]⟩, .bool false, .bool false]), 3, 24) := by kernel_rfl
theorem infoF : (Tryd.prog.info? 38).map (fun i => (i.zero, i.size, i.bytes)) = some (some (.slice none 0 0), 1, 24) := by kernel_rfl
abbrev rv (r : RunV) : Value := .agg #[.string ⟨r.t.toArray⟩, .bool r.q, .bool r.s]
theorem FieldsAt.below {w w' : World} {T : Nat → Prop} {fb Eb : Nat} {F : Flds} {deep : Int} (h : FieldsAt w T fb Eb F deep) (hb : Below w.heap.size w w') : FieldsAt w' T fb Eb F deep := h.kw (M := fun _ _ => False) (Kw.below hb) fun _ _ _ _ _ h => h
theorem FieldsAt.alloc {w : World} {T : Nat → Prop} {fb Eb : Nat} {F : Flds} {deep : Int} (h : FieldsAt w T fb Eb F deep) (o : Obj) : FieldsAt (w.alloc o) T fb Eb F deep := h.below ((Below.refl _ _).alloc (Nat.le_refl _) o)
theorem own_some {w : World} {base : Nat} {t : TypeId} {k n : Nat} {v : Value} {xs : List Value} (h : w.ownsRow base t k v n xs) (hn : 0 < n) : ∃ g cap, v = .slice (some ⟨g, 0, none⟩) n cap := by
  obtain ⟨A, c, rfl, h1, _⟩ := own_form h
  obtain ⟨b, rfl, _⟩ := h1 hn
  exact ⟨b, c, rfl⟩
set_option maxRecDepth 100000 in
set_option maxHeartbeats 4000000 in
theorem put_any (T : Nat → Prop) (fb Eb : Nat) (F : Flds) (deep : Int) (r : RunV) (w : World) (h : FieldsAt w T fb Eb F deep) (hn : F.length ≤ 1000000000) (hy : (F.getLastD []).length ≤ 1000000000) :
    Calls Tryd.prog 24 #[.pointer (some ⟨fb, 0, none⟩), rv r] w fun e w' => e = .returned (.tuple #[]) ∧ FieldsAt w' T fb Eb (joinF F [[r]]) deep ∧ Kw (MF T) w w' := by
  obtain ⟨i0, hi, hz0, hz1, hz2⟩ := info_parts infoR
  obtain ⟨t, q, s⟩ := r
  obtain ⟨up, own, v, X, y, prev, lv, rfl, h2, h3, h4, h5, h6, h7⟩ := h
  have HKW := hid ((Kw.refl (MF T) w).alloc (.cells #[.string ⟨t.toArray⟩, .bool q, .bool s] 40))
  rw [List.length_append, List.length_singleton] at h3 hn
  have hyl : y.length ≤ 1000000000 := by simpa using hy
  obtain ⟨g, cap, rfl⟩ := own_some h3 (by omega)
  have hpl : prev.length = X.length := h7.length
  have c1 : w.cell? ⟨fb, 1, none⟩ = some (.slice (some ⟨g, 0, none⟩) (X.length + 1) cap) := by rw [h2.cell]; rfl
  have c2 : w.cell? ⟨g, X.length, none⟩ = some lv := by rw [h3.cellAt X.length (by omega)]; simp [← hpl]
  have hfb := h2.lt
  have hgl := (h3.lt g rfl).2
  have hXI : (X.length : Int) ≤ 1000000000 := by omega
  have hXL : (X.length : Int) < (X.length : Int) + 1 := by omega
  have h2' : At (w.alloc (.cells #[.string ⟨t.toArray⟩, .bool q, .bool s] 40)).drew fb 69 #[.iface 28 (.pointer (some ⟨Eb, 0, none⟩)), .slice (some ⟨g, 0, none⟩) (X.length + 1) cap, .int .i64 deep] := h2.alloc (.cells #[.string ⟨t.toArray⟩, .bool q, .bool s] 40)
  have h3' : (w.alloc (.cells #[.string ⟨t.toArray⟩, .bool q, .bool s] 40)).drew.ownsRow 0 38 1 (.slice (some ⟨g, 0, none⟩) (X.length + 1) cap) (X.length + 1) (prev ++ [lv]) := own_alloc h3 (.cells #[.string ⟨t.toArray⟩, .bool q, .bool s] 40)
  have h5' : (w.alloc (.cells #[.string ⟨t.toArray⟩, .bool q, .bool s] 40)).drew.ownsRow 0 40 3 lv y.length (rnv y) := own_alloc h5 (.cells #[.string ⟨t.toArray⟩, .bool q, .bool s] 40)
  have h7' := h7.kw (M := fun _ _ => False) ((Kw.refl _ _).alloc (.cells #[.string ⟨t.toArray⟩, .bool q, .bool s] 40)).drew (fun _ _ h => h)
  have up' : ∀ k, (w.alloc (.cells #[.string ⟨t.toArray⟩, .bool q, .bool s] 40)).drew.heap.size ≤ k → T k := fun k hk => up k (by simp at hk; omega)
  have hnw := World.news_of_block (cs := #[.string ⟨t.toArray⟩, .bool q, .bool s]) (heap_alloc_new (w.alloc (.cells #[.string ⟨t.toArray⟩, .bool q, .bool s] 40)) (.cells #[.string ⟨t.toArray⟩, .bool q, .bool s] 40))
  rw [show (w.alloc (.cells #[.string ⟨t.toArray⟩, .bool q, .bool s] 40)).heap.size = w.heap.size + 1 by simp] at hnw
  have HUP := hid up'
  have HOWN := hid own
  have H2 := hid h2'
  have H3 := hid h3'
  have H4 := hid h4
  have H5 := hid h5'
  have H6 := hid h6
  have H7 := hid h7'
  clear up own h2 h3 h4 h6 h7 hpl h5 h2' h3' h5' h7' up'
  go_enter Tryd.func24, Tryd.ntmps24
  go_wp2_with fail
  go_region_law ((refine step_append_own_at (by rfl) (.tmp 22) (.tmp 24) 38 (by rfl) 0 40 i0 (.agg #[.string ⟨#[]⟩, .bool false, .bool false]) 3 24 Tryd.underlying38 hi hz0 hz1 hz2 (by rfl) (by decide) lv y.length (rnv y) (by rfl) (by exact own_alloc H5.out _) ⟨w.heap.size + 1, 0, none⟩ 1 1 [.string ⟨t.toArray⟩, .bool q, .bool s] (by rfl) (by rfl) (by exact hnw) (by simp [Value.oneCell']) (by unfold maxLen; omega) (by omega) (by simp) ?_; intro v' w3 hown' hgrow hat'; obtain ⟨A', c', rfl, d1, d3, f3, HF⟩ := put_facts ⟨t, q, s⟩ HUP.out HOWN.out H2.out H3.out H4.out H5.out H6.out H7.out hown' hgrow (by simpa using hat') g cap rfl))
  all_goals
    go_end0
    refine ⟨rfl, ?_, HKW.out.trans (Kw.trans ((Kw.refl _ _).drew) HF.out.2)⟩
    rw [joinF_snoc]
    exact HF.out.1
end Go.Proofs.YtklihdlfbhgpeaaDoor
