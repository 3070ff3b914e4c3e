/-
  An argument that is a slice of runs, opened: it lies at an address, and reads as a list of runs.
-/
import Derived.Test.YtklihdlfbhgpeaaG4
import Derived.Deep.Slices
import Derived.Deep.Fields
namespace Go.Proofs.Ytklihdlfbhgpeaa
open Go.RowKit Go.ChangeShapes Go.WideShapes Go.Deep
set_option linter.unusedVariables false
section
variable {H : Type} {enc : TypeId × Value → H} {w : World} {base : Nat} {spare : Nat → Bool} {held : Bool}
theorem run_open {fuel : Nat} {cs : List Value} {x : DataW H × List MemPlace} (h : DataW.trod enc Try.prog w base spare held fuel 33 cs = some x) :
    ∃ r : RunV, cs[0]? = some (.string ⟨r.t.toArray⟩) ∧ cs[1]? = some (.bool r.q) ∧ cs[2]? = some (.bool r.s) := by
  obtain ⟨xs, n, _, _, hlen, hxl, hf⟩ := DataW.trod_struct Try.underlying33 h
  have h3 : cs.length = 3 := hlen.trans (by kernel_rfl)
  match cs, h3 with
  | [c0, c1, c2], _ =>
    match xs, hxl with
    | [y0, y1, y2], _ =>
      have f0 := hf 0 _ rfl
      have f1 := hf 1 _ rfl
      have f2 := hf 2 _ rfl
      simp only [List.getElem?_cons_zero, List.getElem?_cons_succ] at f0 f1 f2
      obtain ⟨s, hs, _, _⟩ := DataW.trod_string Try.underlying9 f0
      obtain ⟨a, ha, _⟩ := DataW.trod_bool Try.underlying4 f1
      obtain ⟨b, hb, _⟩ := DataW.trod_bool Try.underlying4 f2
      injection hs with hs
      injection ha with ha
      injection hb with hb
      subst hs ha hb
      exact ⟨⟨s.data.toList, a, b⟩, by simp, rfl, rfl⟩
theorem runs_open {fuel : Nat} {cs : List Value} {x : DataW H × List MemPlace} (h : DataW.trod enc Try.prog w base spare held fuel 22 cs = some x) :
    ∃ (A : Option Addr) (cap : Nat) (rs : List RunV), cs = [.slice A rs.length cap] ∧ rs.length ≤ maxLen ∧ Rns w A rs := by
  have o33 : Try.prog.cellsOf 33 = 3 := by kernel_rfl
  rcases open_slice Try.underlying22 h with ⟨hcs, _⟩ | ⟨a, len, cap, m, n, D, Pl, hcs, _, hl, hm, hmm, _, hi⟩
  · exact ⟨none, 0, [], hcs, by simp [maxLen], Rc.nil⟩
  · have hlm : len ≤ m := by rw [hmm]; split <;> omega
    have he : ∀ i, i < len → ∃ r : RunV, w.cell? (a.add (i * 3)) = some (.string ⟨r.t.toArray⟩) ∧ w.cell? (a.add (i * 3 + 1)) = some (.bool r.q) ∧ w.cell? (a.add (i * 3 + 2)) = some (.bool r.s) := by
      intro i hil
      obtain ⟨cs', hc, ht⟩ := hi i (by omega)
      rw [o33] at hc
      obtain ⟨_, _, hat⟩ := World.cells?_some hc
      obtain ⟨r, h0, h1, h2⟩ := run_open ht
      refine ⟨r, ?_, ?_, ?_⟩
      · have := hat 0 (by omega); rw [Go.Deep.add_add, h0] at this; exact this
      · have := hat 1 (by omega); rw [Go.Deep.add_add, h1] at this; exact this
      · have := hat 2 (by omega); rw [Go.Deep.add_add, h2] at this; exact this
    obtain ⟨f, hf⟩ : ∃ f : Nat → RunV, ∀ i, i < len → w.cell? (a.add (i * 3)) = some (.string ⟨(f i).t.toArray⟩) ∧ w.cell? (a.add (i * 3 + 1)) = some (.bool (f i).q) ∧ w.cell? (a.add (i * 3 + 2)) = some (.bool (f i).s) := by
      haveI : Inhabited RunV := ⟨run0⟩
      exact choose_lt he
    have hrl : ((List.range len).map f).length = len := by simp
    refine ⟨some a, cap, (List.range len).map f, by rw [hrl]; exact hcs, by rw [hrl]; omega, by rw [hrl]; rw [rnv_length, hrl], fun hp => ?_⟩
    rw [hrl] at hp
    obtain ⟨b, off, spot⟩ := a
    have hspot : spot = none := by
      have h0 := World.cell?_spot (hf 0 hp).1
      simpa [Addr.add] using h0
    subst hspot
    have hadd : ∀ k, (⟨b, off, none⟩ : Addr).add k = ⟨b, off + k, none⟩ := fun k => by unfold Addr.add; split <;> simp_all
    refine ⟨b, off, rfl, ?_, fun j u hu => ?_⟩
    · have := World.block_lt_of_cell? w _ (hf 0 hp).1
      simpa [Addr.add] using this
    · have hj : j < len * 3 := by
        have := (List.getElem?_eq_some_iff.1 hu).1
        rw [rnv_length, hrl] at this
        exact this
      have hi3 : j / 3 < len := by omega
      obtain ⟨g0, g1, g2⟩ := rnv_get ((List.range len).map f) (j / 3) (by rw [hrl]; exact hi3)
      obtain ⟨e0, e1, e2⟩ := hf (j / 3) hi3
      have hgd : ((List.range len).map f).getD (j / 3) run0 = f (j / 3) := by simp [List.getD, hi3]
      rw [hgd] at g0 g1 g2
      rw [hadd] at e0 e1 e2
      have hm3 : j % 3 = 0 ∨ j % 3 = 1 ∨ j % 3 = 2 := by omega
      rcases hm3 with hk | hk | hk
      · have hje : j = j / 3 * 3 := by omega
        rw [hje] at hu ⊢
        rw [g0] at hu; rw [e0]; exact hu
      · have hje : j = j / 3 * 3 + 1 := by omega
        rw [hje] at hu ⊢
        rw [g1] at hu; rw [e1]; exact hu
      · have hje : j = j / 3 * 3 + 2 := by omega
        rw [hje] at hu ⊢
        rw [g2] at hu; rw [e2]; exact hu
end
end Go.Proofs.Ytklihdlfbhgpeaa
