/-
  The walk of the closure trim of ExpandTrims.
-/
import Derived.Test.YtklihdlfbhgpeaaDoorTrimP
namespace Go.Proofs.YtklihdlfbhgpeaaDoor
open Go.RowKit
set_option linter.unusedVariables false

/-- The law's one variable. -/
def tvar (s : Str) : EnvV := ⟨[([118], s)], [], 0, []⟩
/-- The box of the law's variables. -/
def VBox (w : World) (vb : Nat) (s : Str) : Prop := ∃ lb, At w vb 26 #[.slice (some ⟨lb, 0, none⟩) 1 1, .slice none 0 0, .int .i64 0] ∧ At w lb 44 #[.string ⟨#[118]⟩, .string ⟨s.toArray⟩]
theorem VBox.below {w w' : World} {vb : Nat} {s : Str} (h : VBox w vb s) (hb : Below w.heap.size w w') : VBox w' vb s := by
  obtain ⟨lb, h2, h3⟩ := h
  exact ⟨lb, h2.below hb h2.lt, h3.below hb h3.lt⟩
/-- What the closure answers: the one run's text. -/
def trimAns (o : Out) : Str := if o.e = 0 ∧ o.F.length = 1 ∧ (o.F.headD []).length = 1 then ((o.F.headD []).headD run0).t else [110, 111]
theorem below_any {w wa wb : World} (h : Below wa.heap.size wa wb) (k : Below w.heap.size w wa) : Below w.heap.size w wb := k.trans (h.mono k.size)
theorem below_drw (w : World) : Below w.heap.size w w.drew := ⟨rfl, rfl, rfl, Nat.le_refl _, fun _ _ => rfl⟩
set_option maxRecDepth 100000 in
set_option maxHeartbeats 4000000 in
theorem trimc_any (B vb : Nat) (op s : Str) (ws : List PartV) (A : Option Addr) (c : Nat) (w : World) (hB : B ≤ w.heap.size) (hB0 : 0 < B) (hv : VBox w vb s) (hT : Tab w) (hP : PAt 19 w A ws) (hs : s.length ≤ 60) (hcw : costW 19 ws ≤ 1000000) :
    Calls Tryd.prog 15 #[.string ⟨op.toArray⟩, .slice A ws.length c, .pointer (some ⟨vb, 0, none⟩)] w fun e w' => e = .returned (.string ⟨(trimAns (evalW 20 [parV [118] op true ws] (tvar s))).toArray⟩) ∧ Below B w w' := by
  obtain ⟨lb, hA26, hA44⟩ := hv
  have hok : EnvOk (tvar s) := ⟨by intro v hv; simp only [tvar, List.mem_singleton] at hv; subst hv; simp only []; omega, by simp [tvar], by simp [tvar], by simp [tvar], by simp [tvar]⟩
  have hW : WB 20 [parV [118] op true ws] (tvar s) := by
    have e : costW 20 [parV [118] op true ws] = 1001 + costW 19 ws := by
      rw [show (20 : Nat) = 19 + 1 from rfl, costW_cons, costW_nil]
      simp [costP, bodyLen, parV, PartV.text, PartV.body, PartV.word]
    exact ⟨hok, by omega, by simp [tvar]; omega, by simp [tvar]; omega⟩
  have hx : ∀ W bk Eb, Below w.heap.size w W → B ≤ Eb → At W bk 47 #[.int .i64 2, .string ⟨#[118]⟩, .string ⟨op.toArray⟩, .bool true, .slice A ws.length c, .pointer none] →
      At W Eb 31 #[.slice (some ⟨lb, 0, none⟩) 1 1, .slice none 0 0, .int .i64 0, .slice none 0 0] →
      Calls Tryd.prog 9 #[.slice (some ⟨bk, 0, none⟩) 1 1, .iface 28 (.pointer (some ⟨Eb, 0, none⟩))] W fun e w' => ∃ v, e = .returned (.tuple #[v, .int .i64 (evalW 20 [parV [118] op true ws] (tvar s)).e]) ∧
        ((evalW 20 [parV [118] op true ws] (tvar s)).e = 0 → ∃ P, FldOut w' P v (evalW 20 [parV [118] op true ws] (tvar s)).F) ∧ ((evalW 20 [parV [118] op true ws] (tvar s)).e ≠ 0 → v = .slice none 0 0) ∧ Below B w w' := by
    intro W bk Eb hBW hE h47 h31
    have hPat : PAt 20 W (some ⟨bk, 0, none⟩) [parV [118] op true ws] := PAt.mk [⟨parV [118] op true ws, A, c, none⟩] h47 rfl (by
      intro x hx
      simp only [List.mem_singleton] at hx
      subst hx
      exact ⟨hP.below hBW, rfl⟩)
    have hEnv : EnvAt W (fun k => B ≤ k) Eb (tvar s) := by
      refine ⟨fun k hk => Nat.le_trans hB (Nat.le_trans hBW.size hk), hE, .slice (some ⟨lb, 0, none⟩) 1 1, none, 0, .slice none 0 0, h31, ⟨rfl, .inr ⟨lb, 1, _, rfl, Nat.zero_le _, hA44.below hBW hA44.lt, Nat.le_refl 1, by unfold maxLen; omega, rfl, rfl⟩⟩, .inr ⟨_, rfl⟩, TR.nil, World.ownsRow_nil _ _ _ _, fun r hr => (by cases hr), fun h => absurd h (by simp [tvar])⟩
    refine (expand_any (fun k => B ≤ k) Eb (tvar s) [parV [118] op true ws] (some ⟨bk, 0, none⟩) 1 W hEnv (by omega) (hT.below hBW) hPat hW).mono ?_
    rintro e w' ⟨v, rfl, h1, h2, h3, h4⟩
    exact ⟨v, rfl, fun h => ⟨_, h1 h⟩, h2, (hBW.mono hB).trans (h4.toBelow (Nat.le_trans hB hBW.size) fun k t h => h.1)⟩
  have HX := hid hx
  have c0 : w.cell? ⟨vb, 0, none⟩ = some (.slice (some ⟨lb, 0, none⟩) 1 1) := by rw [hA26.cell]; rfl
  have c1 : w.cell? ⟨vb, 1, none⟩ = some (.slice none 0 0) := by rw [hA26.cell]; rfl
  have c2 : w.cell? ⟨vb, 2, none⟩ = some (.int .i64 0) := by rw [hA26.cell]; rfl
  have hl26 := hA26.lt
  have HB := hid hB
  have HA := hid hA26
  clear hx hA26 hA44 hW hok hP hT hB
  generalize evalW 20 [parV [118] op true ws] (tvar s) = o at *
  obtain ⟨oe, oF, os⟩ := o
  dsimp only at HX
  have hsB := HB.out
  have hxA : ∀ w1 : World, Below w.heap.size w w1 → Calls Tryd.prog 9 #[.slice (some ⟨w1.heap.size, 0, none⟩) 1 1, .iface 28 (.pointer (some ⟨w1.heap.size + 1, 0, none⟩))] ((w1.alloc (.cells #[.int .i64 2, .string ⟨#[118]⟩, .string ⟨op.toArray⟩, .bool true, .slice A ws.length c, .pointer none] 47)).alloc (.cells #[.slice (some ⟨lb, 0, none⟩) 1 1, .slice none 0 0, .int .i64 0, .slice none 0 0] 31)) fun e w' => ∃ v, e = .returned (.tuple #[v, .int .i64 oe]) ∧ (oe = 0 → ∃ P, FldOut w' P v oF) ∧ (oe ≠ 0 → v = .slice none 0 0) ∧ Below B w w' := fun w1 h => by
    have hs1 := h.size
    refine HX.out _ _ _ ((h.alloc hs1 _).alloc (by simp; omega) _) (by omega) (At.alloc (heap_alloc_new w1 _) _) ?_
    have := heap_alloc_new (w1.alloc (.cells #[.int .i64 2, .string ⟨#[118]⟩, .string ⟨op.toArray⟩, .bool true, .slice A ws.length c, .pointer none] 47)) (.cells #[.slice (some ⟨lb, 0, none⟩) 1 1, .slice none 0 0, .int .i64 0, .slice none 0 0] 31)
    simp only [World.size_alloc] at this
    exact this
  have hxB : ∀ w1 : World, Below w.heap.size w w1 → Calls Tryd.prog 9 #[.slice (some ⟨w1.heap.size + 1, 0, none⟩) 1 1, .iface 28 (.pointer (some ⟨w1.heap.size, 0, none⟩))] ((w1.alloc (.cells #[.slice (some ⟨lb, 0, none⟩) 1 1, .slice none 0 0, .int .i64 0, .slice none 0 0] 31)).alloc (.cells #[.int .i64 2, .string ⟨#[118]⟩, .string ⟨op.toArray⟩, .bool true, .slice A ws.length c, .pointer none] 47)) fun e w' => ∃ v, e = .returned (.tuple #[v, .int .i64 oe]) ∧ (oe = 0 → ∃ P, FldOut w' P v oF) ∧ (oe ≠ 0 → v = .slice none 0 0) ∧ Below B w w' := fun w1 h => by
    have hs1 := h.size
    refine HX.out _ _ _ ((h.alloc hs1 _).alloc (by simp; omega) _) (by omega) ?_ (At.alloc (heap_alloc_new w1 _) _)
    have := heap_alloc_new (w1.alloc (.cells #[.slice (some ⟨lb, 0, none⟩) 1 1, .slice none 0 0, .int .i64 0, .slice none 0 0] 31)) (.cells #[.int .i64 2, .string ⟨#[118]⟩, .string ⟨op.toArray⟩, .bool true, .slice A ws.length c, .pointer none] 47)
    simp only [World.size_alloc] at this
    exact this
  have hxC : ∀ w1 : World, Below w.heap.size w w1 → At w1 w.heap.size 31 #[.slice (some ⟨lb, 0, none⟩) 1 1, .slice none 0 0, .int .i64 0, .slice none 0 0] → Calls Tryd.prog 9 #[.slice (some ⟨w1.heap.size, 0, none⟩) 1 1, .iface 28 (.pointer (some ⟨w.heap.size, 0, none⟩))] (w1.alloc (.cells #[.int .i64 2, .string ⟨#[118]⟩, .string ⟨op.toArray⟩, .bool true, .slice A ws.length c, .pointer none] 47)) fun e w' => ∃ v, e = .returned (.tuple #[v, .int .i64 oe]) ∧ (oe = 0 → ∃ P, FldOut w' P v oF) ∧ (oe ≠ 0 → v = .slice none 0 0) ∧ Below B w w' := fun w1 h1 hA1 =>
    HX.out _ _ _ (h1.alloc h1.size _) hsB (heap_alloc_new w1 _) (At.alloc hA1 _)
  have HXA := hid hxA
  have HXB := hid hxB
  have HXC := hid hxC
  clear hxA hxB hxC
  go_enter Tryd.func15, Tryd.ntmps15
  go_upto_region 1 with fail
  go_cut [6, 7] (fun s6 s7 wx => s7 = .int .i64 oe ∧ Hid ((oe = 0 → ∃ P, FldOut wx P s6 oF) ∧ (oe ≠ 0 → s6 = .slice none 0 0) ∧ Below B w wx))
  case first =>
    go_region_with (first
      | (go_at_call 13; refine (par_any [118] op true A ws.length c _).mono ?_; rintro e w1 ⟨rfl, hB1⟩; have hW1 : Below w.heap.size w w1 := below_any hB1 (by first | exact Below.refl _ _ | exact below_drw _ | exact (below_drw w).alloc (Nat.le_refl _) _); have d0 := cell_below c0 hW1; have d1 := cell_below c1 hW1; have d2 := cell_below c2 hW1; have dl := Nat.lt_of_lt_of_le hl26 hW1.size)
      | (go_at_call 9; with_reducible (refine (HXA.out w1 hW1).mono ?_); rintro e w3 ⟨v, rfl, hF, hN, hBB⟩)
      | (go_at_call 9; with_reducible (refine (HXB.out w1 hW1).mono ?_); rintro e w3 ⟨v, rfl, hF, hN, hBB⟩)
      | (go_at_call 9; have hA1 : At w1 w.heap.size 31 #[.slice (some ⟨lb, 0, none⟩) 1 1, .slice none 0 0, .int .i64 0, .slice none 0 0] := At.below (heap_alloc_new w.drew _) hB1 (by simp); with_reducible (refine (HXC.out w1 hW1 hA1).mono ?_); rintro e w3 ⟨v, rfl, hF, hN, hBB⟩))
    all_goals
      have HF := hid (And.intro hF (And.intro hN hBB))
      clear hF hN hBB
      go_wp2_with fail
      go_meet
      exact ⟨rfl, HF⟩
  case rest =>
    obtain ⟨rfl, HF⟩ := hcut
    by_cases h0 : oe = 0
    · subst h0
      obtain ⟨P, hP⟩ := HF.out.1 rfl
      obtain ⟨A1, c1, rows, rfl, hT1, _, hR1⟩ := hP.row
      have HBB := hid HF.out.2.2
      by_cases h1 : oF.length = 1
      · obtain ⟨g, rfl⟩ : ∃ g, oF = [g] := by
          match oF, h1 with
          | [g], _ => exact ⟨g, rfl⟩
        obtain ⟨u, hu, AR, cR, rfl, hTR, _⟩ := hR1.get (i := 0) (by simp)
        obtain ⟨b, off, cur, fz, rfl, hb, hcur⟩ := hT1.2 (by simp)
        have x1 : wc.cell? ⟨b, off, none⟩ = some (.slice AR g.length cR) := by
          have := (cell_of_row wc b (off + 0) cur 38 fz hb).trans (hcur 0 _ hu)
          simpa using this
        have hl1 : ([g] : Flds).length = 1 := rfl
        have HTR := hid hTR
        clear hT1 hR1 hu hb hcur hTR hP HF
        by_cases h2 : g.length = 1
        · obtain ⟨r, rfl⟩ : ∃ r, g = [r] := by
            match g, h2 with
            | [r], _ => exact ⟨r, rfl⟩
          obtain ⟨b2, off2, cur2, fz2, hA2, hb2, hcur2⟩ := HTR.out.2 (by simp)
          subst hA2
          have y1 : wc.cell? ⟨b2, off2, none⟩ = some (.string ⟨r.t.toArray⟩) := by
            have := (cell_of_row wc b2 (off2 + 0) cur2 40 fz2 hb2).trans (hcur2 0 (.string ⟨r.t.toArray⟩) rfl)
            simpa using this
          clear hb2 hcur2 HTR
          go_wp2_with fail
          go_ret
          exact ⟨rfl, HBB.out⟩
        · have h2I : ¬ ((g.length : Int) = 1) := by omega
          have h2b : ((g.length : Int) == 1) = false := by simpa using h2I
          go_wp2_with fail
          go_ret
          have e : trimAns ⟨0, [g], os⟩ = [110, 111] := by unfold trimAns; rw [if_neg (fun h => h2 h.2.2)]
          rw [e]
          exact ⟨rfl, HBB.out⟩
      · have h1I : ¬ ((oF.length : Int) = 1) := by omega
        clear hT1 hR1 hP HF
        go_wp2_with fail
        go_ret
        have e : trimAns ⟨0, oF, os⟩ = [110, 111] := by unfold trimAns; rw [if_neg (fun h => h1 h.2.1)]
        rw [e]
        exact ⟨rfl, HBB.out⟩
    · obtain rfl := HF.out.2.1 h0
      go_wp2_with fail
      go_ret
      have e : trimAns ⟨oe, oF, os⟩ = [110, 111] := by unfold trimAns; rw [if_neg (fun h => h0 h.1)]
      rw [e]
      exact ⟨rfl, HF.out.2.2⟩
end Go.Proofs.YtklihdlfbhgpeaaDoor
