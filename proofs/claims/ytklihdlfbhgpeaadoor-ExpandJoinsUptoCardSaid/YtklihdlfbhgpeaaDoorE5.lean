/-
  The walk of flat.
-/
import Derived.Test.YtklihdlfbhgpeaaDoorE4
namespace Go.Proofs.YtklihdlfbhgpeaaDoor
open Go.RowKit
set_option linter.unusedVariables false

theorem flatR_snoc (G : Flds) (g : List RunV) : flatR (G ++ [g]) = if G = [] then g else flatR G ++ [spR] ++ g := by
  cases G with
  | nil => simp [flatR]
  | cons a r => simp [flatR]
theorem flatR_take_le (G : Flds) (i : Nat) : (flatR (G.take i)).length ≤ (flatR G).length := by
  cases G with
  | nil => simp
  | cons a r =>
    cases i with
    | zero => simp [flatR]
    | succ i =>
      have e : r = r.take i ++ r.drop i := (List.take_append_drop i r).symm
      rw [List.take_succ_cons]
      conv => rhs; rw [e]
      simp only [flatR, List.length_append, List.flatMap_append]
      omega
set_option maxRecDepth 100000 in
set_option maxHeartbeats 4000000 in
theorem flat_any (P : Nat → Prop) (G : Flds) (v : Value) (w : World) (hG : FldOut w P v G) (hn : G.length ≤ 1000000000) (hl : (flatR G).length ≤ 1000000000) :
    Calls Tryd.prog 44 #[v] w fun e w' => (∃ A c, e = .returned (.slice A (flatR G).length c) ∧ TR w' 40 3 A (flatR G).length (rnv (flatR G))) ∧ Below w.heap.size w w' := by
  obtain ⟨j0, hj, hz0, hz1, hz2⟩ := info_parts infoR
  obtain ⟨A, c, rows, rfl, hA, hAQ, hR⟩ := hG.row
  have hGI : (G.length : Int) ≤ 1000000000 := by omega
  have HG := hid hG
  clear hG hA hAQ hR
  go_enter Tryd.func44, Tryd.ntmps44
  go_wp2_with fail
  go_loopg [3, 8] G.length (fun m v3 v8 wr => ∃ i : Nat, m + i = G.length ∧ v8 = .int .i64 i ∧ wr.ownsRow w.heap.size 40 3 v3 (flatR (G.take i)).length (rnv (flatR (G.take i))) ∧ Below w.heap.size w wr)
  case atStart => exact ⟨0, rfl, rfl, World.ownsRow_nil _ _ _ _, Below.refl _ _⟩
  case round =>
    obtain ⟨i, hm, rfl, hO, hB⟩ := hrel
    have HM := hid hm
    have HB := hid hB
    have HO := hid hO
    by_cases hi : i < G.length
    · have hG2 := HG.out
      obtain ⟨A2, c2, rows, hv, hA, hAQ, hR⟩ := hG2.row
      injection hv with hv1 hv2 hv3
      subst hv1 hv3
      obtain ⟨u, hu, AR, cR, rfl, hTR, hQR⟩ := hR.get hi
      obtain ⟨b, off, cur, fz, rfl, hb, hcur⟩ := hA.2 (by omega)
      have x1 : wr.cell? ⟨b, off + i, none⟩ = some (.slice AR (G.getD i []).length cR) := (cell_of_row wr b (off + i) cur 38 fz ((hB.block b (Array.getElem?_eq_some_iff.1 hb).1).trans hb)).trans (hcur i _ hu)
      have i1 : (i : Int) < (G.length : Int) := by omega
      have HTW := hid hTR
      have HTR := hid (hTR.below hB).rc
      clear hm hO hB hG2 hA hR hb hcur hu hTR hQR hAQ hv2
      have hle := flatR_take_le G (i + 1)
      rw [getD_succ G [] hi, flatR_snoc] at hle
      generalize hg : G.getD i [] = g at x1 HTR HTW hle
      have HGG := hid hg
      clear hg
      rcases Nat.eq_zero_or_pos i with h0 | h0
      · subst h0
        rw [Nat.add_zero] at x1
        have hO0 : wr.ownsRow w.heap.size 40 3 u3 0 [] := HO.out
        have hle0 : g.length ≤ (flatR G).length := by simpa using hle
        go_wp2_with (at_builtin; refine wpList_append_rc rfl (.tmp 19) (.tmp 20) 38 rfl w.heap.size 40 j0 (.agg #[.string ⟨#[]⟩, .bool false, .bool false]) 3 24 Tryd.underlying38 hj hz0 hz1 hz2 rfl (by decide) u3 0 [] rfl hO0 AR g.length cR (rnv g) rfl HTR.out (rnv_one g) (by unfold maxLen; omega) (by omega) (by have := HB.out.size; omega) ?_)
        intro v' w3 hown' hgrow hat'
        have HB3 := hid (HB.out.trans ((Below.of_grown hgrow (by have := HB.out.size; omega) (fun k hk => (hO0.lt k hk).1)).mono (Nat.le_refl _)))
        have HO3 := hid hown'
        clear hown' hgrow hat' hO0 x1
        go_wp2_with fail
        go_roundg (gk - 1)
        case measure => go_light; have := HM.out; omega
        case rel =>
          go_light
          have := HM.out
          refine ⟨1, by omega, int_cast (by omega), ?_, HB3.out⟩
          have h9 := HO3.out
          rw [getD_succ G [] hi, HGG.out, flatR_snoc, if_pos (by simp)]
          simpa using h9
      · have hp : (0 : Int) < (i : Int) := by omega
        have hTne : G.take i ≠ [] := by
          intro e
          have := congrArg List.length e
          rw [List.length_take, List.length_nil] at this
          omega
        rw [if_neg hTne] at hle
        simp only [List.length_append, List.length_singleton] at hle
        have HNE := hid hTne
        clear hTne
        go_wp2_with (at_builtin; refine wpList_append_own_at _ rfl (.tmp 15) (.tmp 17) 38 rfl w.heap.size 40 j0 (.agg #[.string ⟨#[]⟩, .bool false, .bool false]) 3 24 Tryd.underlying38 hj hz0 hz1 hz2 rfl (by decide) u3 (flatR (G.take i)).length _ rfl (own_alloc HO.out _) ⟨wr.heap.size, 0, none⟩ 1 1 [.string ⟨#[32]⟩, .bool false, .bool false] rfl rfl (World.news_of_block (cs := #[.string ⟨#[32]⟩, .bool false, .bool false]) (heap_alloc_new wr _)) (by simp [Value.oneCell']) (by unfold maxLen; omega) (by omega) (by have := HB.out.size; simp; omega) ?_)
        intro v2 w2 hO2 hg2 hnil hat2
        have hB2 : Below w.heap.size w w2 := (HB.out.alloc HB.out.size _).trans (Below.of_grown hg2 (by have := HB.out.size; simp; omega) (fun k hk => (HO.out.lt k hk).1))
        have hR2 : Rc w2 3 AR g.length (rnv g) := (HTW.out.below hB2).rc
        have HB2 := hid hB2
        have HO2 := hid hO2
        clear hO2 hg2 hnil hat2 hB2
        go_wp2_with (at_builtin; refine wpList_append_rc rfl (.tmp 19) (.tmp 20) 38 rfl w.heap.size 40 j0 (.agg #[.string ⟨#[]⟩, .bool false, .bool false]) 3 24 Tryd.underlying38 hj hz0 hz1 hz2 rfl (by decide) v2 ((flatR (G.take i)).length + 1) _ rfl HO2.out AR g.length cR (rnv g) rfl hR2 (rnv_one g) (by unfold maxLen; omega) (by omega) (by have := HB2.out.size; omega) ?_)
        intro v' w3 hown' hgrow hat'
        have HB3 := hid (HB2.out.trans (Below.of_grown hgrow (by have := HB2.out.size; omega) (fun k hk => (HO2.out.lt k hk).1)))
        have HO3 := hid hown'
        clear hown' hgrow hat' x1 hR2
        go_wp2_with fail
        go_roundg (gk - 1)
        case measure => go_light; have := HM.out; omega
        case rel =>
          go_light
          have := HM.out
          refine ⟨i + 1, by omega, int_cast (by omega), ?_, HB3.out⟩
          have h9 := HO3.out
          rw [getD_succ G [] hi, HGG.out, flatR_snoc, if_neg HNE.out, rnv_append, rnv_append]
          have e : (flatR (G.take i) ++ [spR] ++ g).length = (flatR (G.take i)).length + 1 + g.length := by simp; omega
          rw [e, List.append_assoc]
          exact h9
    · have := HM.out
      obtain rfl : i = G.length := by omega
      clear hm hB hO
      go_wp2_with fail
      go_ret
      have hO := HO.out
      rw [List.take_length] at hO
      obtain ⟨A3, c3, rfl, _, _⟩ := own_form hO
      exact ⟨⟨A3, c3, rfl, TR.of_own hO⟩, HB.out⟩
end Go.Proofs.YtklihdlfbhgpeaaDoor
