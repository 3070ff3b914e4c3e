/-
  What lies in memory while a word is expanded: the fields. No function is walked here.
-/
import Derived.Test.YtklihdlfbhgpeaaDoorApp
namespace Go.Proofs.YtklihdlfbhgpeaaDoor
open Go.RowKit
set_option linter.unusedVariables false

/-- A row's value that reads as runs, its block one of P. -/
def RowAt (w : World) (P : Nat → Prop) (v : Value) (g : List RunV) : Prop := ∃ A c, v = .slice A g.length c ∧ TR w 40 3 A g.length (rnv g) ∧ (0 < g.length → ∀ b off, A = some ⟨b, off, none⟩ → P b)
def RowsAt (w : World) (P : Nat → Prop) : List Value → Flds → Prop
  | [], [] => True
  | v :: vs, g :: gs => RowAt w P v g ∧ RowsAt w P vs gs
  | _, _ => False
section
variable {w w' : World} {P Q : Nat → Prop} {M : Nat → TypeId → Prop}
theorem RowAt.kw {v : Value} {g : List RunV} (h : RowAt w P v g) (hk : Kw M w w') (hm : ∀ b, P b → ¬ M b 40) : RowAt w' P v g := by
  obtain ⟨A, c, h1, h2, h3⟩ := h
  exact ⟨A, c, h1, h2.kw' hk fun h0 b off e => hm b (h3 h0 b off e), h3⟩
theorem RowAt.mono {v : Value} {g : List RunV} (h : RowAt w P v g) (hm : ∀ b, b < w.heap.size → P b → Q b) : RowAt w Q v g := by
  obtain ⟨A, c, h1, h2, h3⟩ := h
  refine ⟨A, c, h1, h2, fun h0 b off e => hm b ?_ (h3 h0 b off e)⟩
  obtain ⟨b', off', cur, fz, e', hb, _⟩ := h2.2 h0
  rw [e] at e'
  injection e' with e'
  injection e' with e1 _
  exact e1 ▸ (Array.getElem?_eq_some_iff.1 hb).1
theorem RowsAt.length : ∀ {vs : List Value} {gs : Flds}, RowsAt w P vs gs → vs.length = gs.length
  | [], [], _ => rfl
  | v :: vs, g :: gs, h => by simp [RowsAt.length h.2]
  | [], _ :: _, h => h.elim
  | _ :: _, [], h => h.elim
theorem RowsAt.kw (hk : Kw M w w') (hm : ∀ b, P b → ¬ M b 40) : ∀ {vs : List Value} {gs : Flds}, RowsAt w P vs gs → RowsAt w' P vs gs
  | [], [], _ => trivial
  | v :: vs, g :: gs, h => ⟨h.1.kw hk hm, RowsAt.kw hk hm h.2⟩
  | [], _ :: _, h => h.elim
  | _ :: _, [], h => h.elim
theorem RowsAt.mono (hm : ∀ b, b < w.heap.size → P b → Q b) : ∀ {vs : List Value} {gs : Flds}, RowsAt w P vs gs → RowsAt w Q vs gs
  | [], [], _ => trivial
  | v :: vs, g :: gs, h => ⟨h.1.mono hm, RowsAt.mono hm h.2⟩
  | [], _ :: _, h => h.elim
  | _ :: _, [], h => h.elim
theorem RowsAt.snoc {v : Value} {g : List RunV} (hv : RowAt w P v g) : ∀ {vs : List Value} {gs : Flds}, RowsAt w P vs gs → RowsAt w P (vs ++ [v]) (gs ++ [g])
  | [], [], _ => ⟨hv, trivial⟩
  | u :: vs, k :: gs, h => ⟨h.1, RowsAt.snoc hv h.2⟩
  | [], _ :: _, h => h.elim
  | _ :: _, [], h => h.elim
theorem RowsAt.get : ∀ {vs : List Value} {gs : Flds} {i : Nat}, RowsAt w P vs gs → i < gs.length → ∃ v, vs[i]? = some v ∧ RowAt w P v (gs.getD i [])
  | v :: vs, g :: gs, 0, h, _ => ⟨v, rfl, h.1⟩
  | v :: vs, g :: gs, i + 1, h, hi => by
    obtain ⟨u, h1, h2⟩ := RowsAt.get (i := i) h.2 (by simpa using hi)
    exact ⟨u, by simpa using h1, by simpa using h2⟩
  | [], [], _, _, hi => by simp at hi
  | [], _ :: _, _, h, _ => h.elim
  | _ :: _, [], _, h, _ => h.elim
end
/-- Fields that are handed back; their blocks are P's. -/
structure FldOut (w : World) (P : Nat → Prop) (v : Value) (F : Flds) : Prop where
  row : ∃ A c rows, v = .slice A F.length c ∧ TR w 38 1 A F.length rows ∧ (0 < F.length → ∀ b off, A = some ⟨b, off, none⟩ → P b) ∧ RowsAt w P rows F
abbrev fldT (t : TypeId) : Prop := t = 69 ∨ t = 38 ∨ t = 40
/-- What fields may turn: their own blocks. -/
abbrev MF (T : Nat → Prop) (k : Nat) (t : TypeId) : Prop := T k ∧ fldT t
theorem FldOut.kw {w w' : World} {P : Nat → Prop} {M : Nat → TypeId → Prop} {v : Value} {F : Flds} (h : FldOut w P v F) (hk : Kw M w w') (hm : ∀ b t, P b → fldT t → ¬ M b t) : FldOut w' P v F := by
  obtain ⟨A, c, rows, h1, h2, h3, h4⟩ := h.row
  exact ⟨A, c, rows, h1, h2.kw' hk fun h0 b off e => hm b 38 (h3 h0 b off e) (.inr (.inl rfl)), h3, h4.kw hk fun b hb => hm b 40 hb (.inr (.inr rfl))⟩
/-- The expander's fields: their blocks are T's. -/
structure FieldsAt (w : World) (T : Nat → Prop) (fb Eb : Nat) (F : Flds) (deep : Int) : Prop where
  up : ∀ k, w.heap.size ≤ k → T k
  own : T fb
  at_ : ∃ v X y prev lv, F = X ++ [y] ∧ At w fb 69 #[.iface 28 (.pointer (some ⟨Eb, 0, none⟩)), v, .int .i64 deep] ∧ w.ownsRow 0 38 1 v F.length (prev ++ [lv]) ∧ (∀ r, v.ownBlock = some r → T r) ∧
    w.ownsRow 0 40 3 lv y.length (rnv y) ∧ (∀ r, lv.ownBlock = some r → T r) ∧ RowsAt w (fun b => T b ∧ lv.ownBlock ≠ some b) prev X
theorem FieldsAt.ne {w : World} {T : Nat → Prop} {fb Eb : Nat} {F : Flds} {deep : Int} (h : FieldsAt w T fb Eb F deep) : F ≠ [] := by
  obtain ⟨v, X, y, prev, lv, rfl, _⟩ := h.at_
  simp
theorem FieldsAt.kw {M : Nat → TypeId → Prop} {w w' : World} {T : Nat → Prop} {fb Eb : Nat} {F : Flds} {deep : Int} (h : FieldsAt w T fb Eb F deep) (hk : Kw M w w') (hm : ∀ k t, k < w.heap.size → T k → fldT t → ¬ M k t) : FieldsAt w' T fb Eb F deep := by
  obtain ⟨up, own, v, X, y, prev, lv, h1, h2, h3, h4, h5, h6, h7⟩ := h
  refine ⟨fun k h => up k (Nat.le_trans hk.size h), own, v, X, y, prev, lv, h1, hk.at_ h2 (hm _ _ h2.lt own (.inl rfl)), own_kw h3 hk fun r hr => ?_, h4, own_kw h5 hk fun r hr => ?_, h6, ?_⟩
  · exact hm _ _ (h3.lt r hr).2 (h4 r hr) (.inr (.inl rfl))
  · exact hm _ _ (h5.lt r hr).2 (h6 r hr) (.inr (.inr rfl))
  · exact (RowsAt.kw (P := fun b => b < w.heap.size ∧ (T b ∧ lv.ownBlock ≠ some b)) hk (fun b hb => hm _ _ hb.1 hb.2.1 (.inr (.inr rfl))) (h7.mono fun b hb hh => ⟨hb, hh⟩)).mono fun b _ hh => hh.2
/-- A smaller territory. -/
theorem FieldsAt.less {w : World} {T T' : Nat → Prop} {fb Eb : Nat} {F : Flds} {deep : Int} (h : FieldsAt w T fb Eb F deep) (ht : ∀ k, k < w.heap.size → T k → T' k) (up' : ∀ k, w.heap.size ≤ k → T' k) : FieldsAt w T' fb Eb F deep := by
  obtain ⟨up, own, v, X, y, prev, lv, h1, h2, h3, h4, h5, h6, h7⟩ := h
  exact ⟨up', ht _ h2.lt own, v, X, y, prev, lv, h1, h2, h3, fun r hr => ht r (h3.lt r hr).2 (h4 r hr), h5, fun r hr => ht r (h5.lt r hr).2 (h6 r hr), h7.mono fun b hb hh => ⟨ht b hb hh.1, hh.2⟩⟩
/-- The step 'f.l[last] = append(f.l[last], r)'. -/
theorem put_facts {w w2 : World} {T : Nat → Prop} {fb Eb : Nat} {deep : Int} {tmp : Obj} {v lv v' : Value} {X : Flds} {y : List RunV} {prev : List Value} (r : RunV)
    (up : ∀ k, w.heap.size ≤ k → T k) (own : T fb) (h2 : At w fb 69 #[.iface 28 (.pointer (some ⟨Eb, 0, none⟩)), v, .int .i64 deep]) (h3 : w.ownsRow 0 38 1 v (X.length + 1) (prev ++ [lv]))
    (h4 : ∀ r, v.ownBlock = some r → T r) (h5 : w.ownsRow 0 40 3 lv y.length (rnv y)) (h6 : ∀ r, lv.ownBlock = some r → T r) (h7 : RowsAt w (fun b => T b ∧ lv.ownBlock ≠ some b) prev X)
    (hown : w2.ownsRow 0 40 3 v' (y.length + 1) (rnv y ++ [.string ⟨r.t.toArray⟩, .bool r.q, .bool r.s])) (hg : (w.alloc tmp).grownBy w2 lv.ownBlock)
    (hb : v'.ownBlock = lv.ownBlock ∨ v'.ownBlock = some (w.alloc tmp).heap.size) (g cap : Nat) (hv : v = .slice (some ⟨g, 0, none⟩) (X.length + 1) cap) :
    ∃ A' c', v' = .slice A' (y.length + 1) c' ∧ w2.cell? ⟨fb, 1, none⟩ = some (.slice (some ⟨g, 0, none⟩) (X.length + 1) cap) ∧ w2.cell? ⟨g, X.length, none⟩ = some lv ∧ w2.frozen? ⟨g, X.length, none⟩ = false ∧
      Hid (FieldsAt (w2.setCell ⟨g, X.length, none⟩ (.slice A' (y.length + 1) c')) T fb Eb (X ++ [y ++ [r]]) deep ∧ Kw (MF T) w (w2.setCell ⟨g, X.length, none⟩ (.slice A' (y.length + 1) c'))) := by
  subst hv
  have hpl : prev.length = X.length := h7.length
  have k1 : Kw (fun k t => lv.ownBlock = some k ∧ t = 40) w (w.alloc tmp) := (Kw.refl _ _).alloc _
  have k2 : Kw (fun k t => lv.ownBlock = some k ∧ t = 40) (w.alloc tmp) w2 := Kw.grown hg fun r hr => by
    obtain ⟨cur, hc⟩ := own_cells (own_alloc h5 tmp) hr
    exact ⟨cur, 40, (0, 0), hc, hr, rfl⟩
  have k3 := k1.trans k2
  have hO2 := own_kw h3 k3 fun r _ h => absurd h.2 (by decide)
  have hF2 := k3.at_ h2 (fun h => absurd h.2 (by decide))
  have hcell := hO2.cellAt (g := g) (cap := cap) X.length (by rw [Nat.mul_one]; omega)
  obtain ⟨A', c', rfl, _, _⟩ := own_form hown
  obtain ⟨hO3, hG3⟩ := hO2.stored X.length (.slice A' (y.length + 1) c')
  have hset : (prev ++ [lv]).set X.length (.slice A' (y.length + 1) c') = prev ++ [.slice A' (y.length + 1) c'] := by
    rw [← hpl, List.set_append_right _ _ (Nat.le_refl _)]
    simp
  rw [hset] at hO3
  obtain ⟨cur2, hc2⟩ := own_cells hO2 (r := g) rfl
  have k4 : Kw (fun k t => k = g ∧ t = 38) w2 (w2.setCell ⟨g, X.length, none⟩ (.slice A' (y.length + 1) c')) := (Kw.refl _ _).set (t := 38) (cs := cur2) hc2 ⟨rfl, rfl⟩ _ _
  have hTv : ∀ r, (Value.slice A' (y.length + 1) c').ownBlock = some r → T r := fun r hr => by
    rcases hb with e | e
    · exact h6 r (e ▸ hr)
    · rw [e] at hr; injection hr with hr; exact up r (by simp at hr; omega)
  refine ⟨A', c', rfl, by rw [hF2.cell]; rfl, by rw [hcell]; simp [← hpl], hO2.frozenAt _, ⟨fun k hk => up k (Nat.le_trans (Nat.le_trans k3.size k4.size) hk), own, _, X, y ++ [r], prev, _, rfl, k4.at_ hF2 (fun h => absurd h.2 (by decide)), ?_, h4, ?_, hTv, ?_⟩, ?_⟩
  · rw [List.length_append]; exact hO3
  · rw [rnv_append, List.length_append]
    exact own_kw hown k4 fun r _ h => absurd h.2 (by decide)
  · have m1 : RowsAt w (fun b => b < w.heap.size ∧ (T b ∧ lv.ownBlock ≠ some b)) prev X := h7.mono fun b hb hh => ⟨hb, hh⟩
    have m2 := RowsAt.kw k4 (fun b _ h => absurd h.2 (by decide)) (RowsAt.kw k3 (fun b hb h => hb.2.2 h.1) m1)
    refine m2.mono fun b _ hh => ⟨hh.2.1, ?_⟩
    rcases hb with e | e
    · rw [e]; exact hh.2.2
    · rw [e]
      intro he
      injection he with he
      have := hh.1
      simp at he
      omega
  · refine (k3.mono (N := MF T) fun k t _ h => ⟨h6 k h.1, .inr (.inr h.2)⟩).trans (k4.mono fun k t _ h => ⟨h4 k ?_, .inr (.inl h.2)⟩)
    rw [h.1]
    rfl
end Go.Proofs.YtklihdlfbhgpeaaDoor
