/-
  The walk of ExpandJoins: any two words, any variables. No conditions beside the table of powers of ten and the length of the commands' names.
-/
import Derived.Test.YtklihdlfbhgpeaaDoorJB
namespace Go.Proofs.YtklihdlfbhgpeaaDoor
open Go.RowKit
set_option linter.unusedVariables false

set_option maxRecDepth 100000 in
set_option maxHeartbeats 4000000 in
theorem joins_any [Inhabited LowT] (a b : List PartV) (l : List (Str × Str)) (al : List Str) (st : Int) (A1 A2 AL AA : Option Addr) (c1 c2 cL cA : Nat) (w : World) (hT : Tab w) (hw : w.heap.size = lowN + 1) (h1 : ∀ n, PC n w A1 a) (h2 : ∀ n, PC n w A2 b)
    (n1 : a.length ≤ maxLen) (n2 : b.length ≤ maxLen) (hc : nmS 4 a + nmS 4 b ≤ 1048576) (hL : Rc w 2 AL l.length (vrv l)) (hA : Rc w 1 AA al.length (txv al)) :
    Calls Tryd.prog 3 #[.slice A1 a.length c1, .slice A2 b.length c2, .agg #[.slice AL l.length cL, .slice AA al.length cA, .int .i64 st]] w fun e w' => e = .returned (.bool true) ∧ Below w.heap.size w w' := by
  obtain ⟨i47, hi, hz0, hz1, hz2⟩ := info_parts infoP
  have hsh := short_any w (by omega) 3 (by omega)
  have HSH := hid hsh
  have HH := hid (And.intro hT (And.intro hw (And.intro h1 (And.intro h2 (And.intro n1 (And.intro n2 hc))))))
  have HR := hid (And.intro hL hA)
  clear hsh hT hw h1 h2 n1 n2 hc hL hA
  go_enter Tryd.func3, Tryd.ntmps3
  go_upto_region 1 with fail
  obtain ⟨W1, hW1⟩ : ∃ W1, W1 = w.alloc (.cells #[.slice AL l.length cL, .slice AA al.length cA, .int .i64 st] 26) := ⟨_, rfl⟩
  have hB1 : Below w.heap.size w W1 := by rw [hW1]; exact (Below.refl _ _).alloc (Nat.le_refl _) _
  have hAt1 : At W1 w.heap.size 26 #[.slice AL l.length cL, .slice AA al.length cA, .int .i64 st] := by rw [hW1]; exact heap_alloc_new w _
  rw [← hW1]
  clear hW1
  have HA1 := hid (And.intro hB1 hAt1)
  clear hB1 hAt1
  have hs1 := HSH.out a A1 c1 W1 HH.out.2.2.1 HA1.out.1 (by have := HH.out.2.1; have := HA1.out.1.size; omega) HH.out.2.2.2.2.1
  unfold ShortC at hs1
  have HS1 := hid hs1
  clear hs1
  go_upto_region 2 with (go_at_call 7; refine HS1.out.mono ?_; rintro e w1 ⟨v1, rfl, l1, HX1⟩)
  have hb1 : Below w.heap.size w w1 := HA1.out.1.trans (HX1.out.2.2.mono HA1.out.1.size)
  have hs2 := HSH.out b A2 c2 w1 HH.out.2.2.2.1 hb1 (by have := HH.out.2.1; have := hb1.size; omega) HH.out.2.2.2.2.2.1
  unfold ShortC at hs2
  have HS2 := hid hs2
  have HB1 := hid hb1
  clear hs2 hb1
  go_upto_region 3 with (go_at_call 7; refine HS2.out.mono ?_; rintro e w2 ⟨v2, rfl, l2, HX2⟩)
  have hAt2 : At w2 w.heap.size 26 #[.slice AL l.length cL, .slice AA al.length cA, .int .i64 st] := by
    have h1 := HA1.out.2.below HX1.out.2.2 HA1.out.2.lt
    exact h1.below HX2.out.2.2 h1.lt
  have hb2 : Below w.heap.size w w2 := HB1.out.trans (HX2.out.2.2.mono HB1.out.size)
  have hS1 : SAt 3 w2 W1.heap.size v1 l1 := HX1.out.2.1.below HX2.out.2.2
  have HFC := hid (fewC_any l al st AL AA cL cA w2 (HR.out.1.below hb2) (HR.out.2.below hb2))
  have x0 : w2.cell? ⟨w.heap.size, 0, none⟩ = some (.slice AL l.length cL) := by rw [hAt2.cell]; rfl
  have x1 : w2.cell? ⟨w.heap.size, 1, none⟩ = some (.slice AA al.length cA) := by rw [hAt2.cell]; rfl
  have x2 : w2.cell? ⟨w.heap.size, 2, none⟩ = some (.int .i64 st) := by rw [hAt2.cell]; rfl
  obtain ⟨W, hW⟩ : ∃ σ, σ = fewV l al st := ⟨_, rfl⟩
  have hseen : W.seen = [] := by rw [hW]; rfl
  have hok : EnvOk W := by rw [hW]; exact fewV_ok l al st
  have hvl : W.vars.length ≤ 12 := by rw [hW]; exact fewV_len l al st
  rw [← hW] at HFC
  have HX := hid (And.intro x0 (And.intro x1 x2))
  have HD := hid (And.intro hb2 (And.intro hS1 (And.intro HX1.out.1 (And.intro HX2.out.2.1 HX2.out.1))))
  have HE := hid (And.intro hseen (And.intro hok hvl))
  clear hAt2 hb2 hS1 x0 x1 x2 hW hseen hok hvl HX1 HX2 HS1 HS2 HB1 HA1
  go_cut [7, 8] (fun s7 s8 wx => ∃ E1 E2, s7 = .pointer (some ⟨E1, 0, none⟩) ∧ s8 = .pointer (some ⟨E2, 0, none⟩) ∧ Hid (Two w2.heap.size wx E1 E2 W ∧ Below w2.heap.size w2 wx))
  case first =>
    have hb0 : Below w2.heap.size w2 w2.drew := ⟨rfl, rfl, rfl, Nat.le_refl _, fun _ _ => rfl⟩
    refine wp_region_G 10 (fun bb w' => Below w2.heap.size w2 w') (by kernel_rfl) ?_
    refine wpAnyG_t 0 (some 22) false (fun w' => w'.cell? ⟨w.heap.size, 0, none⟩ = some (.slice AL l.length cL) ∧ w'.cell? ⟨w.heap.size, 1, none⟩ = some (.slice AA al.length cA) ∧ w'.cell? ⟨w.heap.size, 2, none⟩ = some (.int .i64 st)) (v := ?_) rfl rfl (by kernel_rfl) (fun _ _ _ h => h) (fun _ _ h => ⟨cell_blw HX.out.1 h, cell_blw HX.out.2.1 h, cell_blw HX.out.2.2 h⟩) hb0 (Or.inl ⟨by rfl, ?_⟩) ?_
    rotate_left
    · intro w9 hSw
      obtain ⟨q0, q1, q2⟩ := hSw
      go_simp
      first | done | with_reducible rfl
    simp only [Act.put, List.setIfInBounds_toArray, List.set_cons_zero, List.set_cons_succ]
    refine wpAnyG_t 4 (some 26) false (fun w' => w'.cell? ⟨w.heap.size, 0, none⟩ = some (.slice AL l.length cL) ∧ w'.cell? ⟨w.heap.size, 1, none⟩ = some (.slice AA al.length cA) ∧ w'.cell? ⟨w.heap.size, 2, none⟩ = some (.int .i64 st)) (v := ?_) rfl rfl (by kernel_rfl) (fun _ _ _ h => h) (fun _ _ h => ⟨cell_blw HX.out.1 h, cell_blw HX.out.2.1 h, cell_blw HX.out.2.2 h⟩) hb0 (Or.inl ⟨by rfl, ?_⟩) ?_
    rotate_left
    · intro w9 hSw
      obtain ⟨q0, q1, q2⟩ := hSw
      go_simp
      first | done | with_reducible rfl
    simp only [Act.put, List.setIfInBounds_toArray, List.set_cons_zero, List.set_cons_succ]
    refine wpAnyG_o 1 false rfl (by kernel_rfl) (by kernel_rfl) (fun K1 hK1 => ?_)
    refine step_call_at [(.agg #[.slice AL l.length cL, .slice AA al.length cA, .int .i64 st])] (cf8 _ _) (by rfl) (HFC.out _ hb0) ?_
    rintro e wA1 ⟨XL1, xc1, XA1, xd1, rfl, HA1⟩
    have hb1c := hb0.trans (HA1.out.b.mono hb0.size)
    refine ⟨_, rfl, hK1.out _ _ hb1c ?_⟩
    clear hK1
    simp only [Act.put, List.setIfInBounds_toArray, List.set_cons_zero, List.set_cons_succ]
    refine wpAnyG_t 2 (some 24) false (fun _ => True) (v := ?_) rfl rfl (by kernel_rfl) (fun _ _ _ h => h) (fun _ _ _ => trivial) hb1c (Or.inl ⟨by rfl, ?_⟩) ?_
    rotate_left
    · intro w9 hSw
      go_simp
      first | done | with_reducible rfl
    simp only [Act.put, List.setIfInBounds_toArray, List.set_cons_zero, List.set_cons_succ]
    refine wpAnyG_two 3 5 false false rfl rfl (by kernel_rfl) ⟨by kernel_rfl, by kernel_rfl⟩ (fun K2 hK2 => ?_) (fun K2 hK2 => ?_)
    · go_simp
      have hbb3 := hb1c.alloc hb1c.size (.cells #[.slice XL1 W.vars.length xc1, .slice XA1 W.args.length xd1, .int .i64 W.status, .slice none 0 0] 31)
      refine hK2.out _ _ hbb3 ?_
      clear hK2
      refine wpAnyG_o 5 false rfl (by kernel_rfl) (by kernel_rfl) (fun K4 hK4 => ?_)
      refine step_call_at [(.agg #[.slice AL l.length cL, .slice AA al.length cA, .int .i64 st])] (cf8 _ _) (by rfl) (HFC.out _ hbb3) ?_
      rintro e wA2 ⟨XL2, xc2, XA2, xd2, rfl, HA2⟩
      have hb2c := hbb3.trans (HA2.out.b.mono hbb3.size)
      refine ⟨_, rfl, hK4.out _ _ hb2c ?_⟩
      clear hK4
      simp only [Act.put, List.setIfInBounds_toArray, List.set_cons_zero, List.set_cons_succ]
      refine wpAnyG_t 6 (some 28) false (fun _ => True) (v := ?_) rfl rfl (by kernel_rfl) (fun _ _ _ h => h) (fun _ _ _ => trivial) hb2c (Or.inl ⟨by rfl, ?_⟩) ?_
      rotate_left
      · intro w9 hSw
        go_simp
        first | done | with_reducible rfl
      simp only [Act.put, List.setIfInBounds_toArray, List.set_cons_zero, List.set_cons_succ]
      refine wpAnyG_t 8 (some 7) false (fun _ => True) (v := ?_) rfl rfl (by kernel_rfl) (fun _ _ _ h => h) (fun _ _ _ => trivial) hb2c (Or.inl ⟨by rfl, ?_⟩) ?_
      rotate_left
      · intro w9 hSw
        go_simp
        first | done | with_reducible rfl
      simp only [Act.put, List.setIfInBounds_toArray, List.set_cons_zero, List.set_cons_succ]
      refine wpAnyG_o 7 false rfl (by kernel_rfl) (by kernel_rfl) (fun K5 hK5 => ?_)
      go_simp
      have hbb6 := hb2c.alloc hb2c.size (.cells #[.slice XL2 W.vars.length xc2, .slice XA2 W.args.length xd2, .int .i64 W.status, .slice none 0 0] 31)
      refine hK5.out _ _ hbb6 ?_
      clear hK5
      refine wpAnyG_t 9 (some 8) false (fun _ => True) (v := ?_) rfl rfl (by kernel_rfl) (fun _ _ _ h => h) (fun _ _ _ => trivial) hbb6 (Or.inl ⟨by rfl, ?_⟩) ?_
      rotate_left
      · intro w9 hSw
        go_simp
        first | done | with_reducible rfl
      simp only [Act.put, List.setIfInBounds_toArray, List.set_cons_zero, List.set_cons_succ]
      refine wpAnyG_done (by kernel_rfl) ?_ _
      go_wp2_with fail
      go_meet
      exact ⟨_, _, rfl, rfl, hid ⟨two_p1 HE.out.1 HA1.out HA2.out, hbb6⟩⟩
    · refine step_call_at [(.agg #[.slice AL l.length cL, .slice AA al.length cA, .int .i64 st])] (cf8 _ _) (by rfl) (HFC.out _ hb1c) ?_
      rintro e wA2 ⟨XL2, xc2, XA2, xd2, rfl, HA2⟩
      have hb2c := hb1c.trans (HA2.out.b.mono hb1c.size)
      refine ⟨_, rfl, hK2.out _ _ hb2c ?_⟩
      clear hK2
      simp only [Act.put, List.setIfInBounds_toArray, List.set_cons_zero, List.set_cons_succ]
      refine wpAnyG_t 6 (some 28) false (fun _ => True) (v := ?_) rfl rfl (by kernel_rfl) (fun _ _ _ h => h) (fun _ _ _ => trivial) hb2c (Or.inl ⟨by rfl, ?_⟩) ?_
      rotate_left
      · intro w9 hSw
        go_simp
        first | done | with_reducible rfl
      simp only [Act.put, List.setIfInBounds_toArray, List.set_cons_zero, List.set_cons_succ]
      refine wpAnyG_two 3 7 false false rfl rfl (by kernel_rfl) ⟨by kernel_rfl, by kernel_rfl⟩ (fun K7 hK7 => ?_) (fun K7 hK7 => ?_)
      · go_simp
        have hbb8 := hb2c.alloc hb2c.size (.cells #[.slice XL1 W.vars.length xc1, .slice XA1 W.args.length xd1, .int .i64 W.status, .slice none 0 0] 31)
        refine hK7.out _ _ hbb8 ?_
        clear hK7
        refine wpAnyG_t 8 (some 7) false (fun _ => True) (v := ?_) rfl rfl (by kernel_rfl) (fun _ _ _ h => h) (fun _ _ _ => trivial) hbb8 (Or.inl ⟨by rfl, ?_⟩) ?_
        rotate_left
        · intro w9 hSw
          go_simp
          first | done | with_reducible rfl
        simp only [Act.put, List.setIfInBounds_toArray, List.set_cons_zero, List.set_cons_succ]
        refine wpAnyG_o 7 false rfl (by kernel_rfl) (by kernel_rfl) (fun K9 hK9 => ?_)
        go_simp
        have hbb10 := hbb8.alloc hbb8.size (.cells #[.slice XL2 W.vars.length xc2, .slice XA2 W.args.length xd2, .int .i64 W.status, .slice none 0 0] 31)
        refine hK9.out _ _ hbb10 ?_
        clear hK9
        refine wpAnyG_t 9 (some 8) false (fun _ => True) (v := ?_) rfl rfl (by kernel_rfl) (fun _ _ _ h => h) (fun _ _ _ => trivial) hbb10 (Or.inl ⟨by rfl, ?_⟩) ?_
        rotate_left
        · intro w9 hSw
          go_simp
          first | done | with_reducible rfl
        simp only [Act.put, List.setIfInBounds_toArray, List.set_cons_zero, List.set_cons_succ]
        refine wpAnyG_done (by kernel_rfl) ?_ _
        go_wp2_with fail
        go_meet
        exact ⟨_, _, rfl, rfl, hid ⟨two_p2 HE.out.1 HA1.out HA2.out, hbb10⟩⟩
      · go_simp
        have hbb11 := hb2c.alloc hb2c.size (.cells #[.slice XL2 W.vars.length xc2, .slice XA2 W.args.length xd2, .int .i64 W.status, .slice none 0 0] 31)
        refine hK7.out _ _ hbb11 ?_
        clear hK7
        refine wpAnyG_o 3 false rfl (by kernel_rfl) (by kernel_rfl) (fun K12 hK12 => ?_)
        go_simp
        have hbb13 := hbb11.alloc hbb11.size (.cells #[.slice XL1 W.vars.length xc1, .slice XA1 W.args.length xd1, .int .i64 W.status, .slice none 0 0] 31)
        refine hK12.out _ _ hbb13 ?_
        clear hK12
        refine wpAnyG_t 8 (some 7) false (fun _ => True) (v := ?_) rfl rfl (by kernel_rfl) (fun _ _ _ h => h) (fun _ _ _ => trivial) hbb13 (Or.inl ⟨by rfl, ?_⟩) ?_
        rotate_left
        · intro w9 hSw
          go_simp
          first | done | with_reducible rfl
        simp only [Act.put, List.setIfInBounds_toArray, List.set_cons_zero, List.set_cons_succ]
        refine wpAnyG_t 9 (some 8) false (fun _ => True) (v := ?_) rfl rfl (by kernel_rfl) (fun _ _ _ h => h) (fun _ _ _ => trivial) hbb13 (Or.inl ⟨by rfl, ?_⟩) ?_
        rotate_left
        · intro w9 hSw
          go_simp
          first | done | with_reducible rfl
        simp only [Act.put, List.setIfInBounds_toArray, List.set_cons_zero, List.set_cons_succ]
        refine wpAnyG_done (by kernel_rfl) ?_ _
        go_wp2_with fail
        go_meet
        exact ⟨_, _, rfl, rfl, hid ⟨two_p3 HE.out.1 HA1.out HA2.out, hbb13⟩⟩
  case rest =>
    obtain ⟨E1, E2, rfl, rfl, HTW⟩ := hcut
    have hcost : costW 20 (shortV 3 a ++ shortV 3 b) ≤ 99999999 := cost_two a b HH.out.2.2.2.2.2.2
    have HWD := hid (show Wds a b W from ⟨HE.out.1, HE.out.2.1, HE.out.2.2, hcost⟩)
    obtain ⟨A1', d1, hv1, _, _⟩ := own_form HD.out.2.1.1
    obtain ⟨A2', d2, hv2, _, _⟩ := own_form HD.out.2.2.2.1.1
    subst hv1 hv2
    have hlen1 : l1.length = (shortV 3 a).length := by rw [← HD.out.2.2.1, List.length_map]
    have hlen2 : l2.length = (shortV 3 b).length := by rw [← HD.out.2.2.2.2, List.length_map]
    have hm1 : l1.length ≤ 12 := by rw [hlen1]; exact shortV_append_len 3 a
    have hm2 : l2.length ≤ 12 := by rw [hlen2]; exact shortV_append_len 3 b
    have HRR := hid (And.intro ((TR.of_own HD.out.2.1.1).rc.below HTW.out.2) ((TR.of_own HD.out.2.2.2.1.1).rc.below HTW.out.2))
    have HLN := hid (And.intro hlen1 hlen2)
    have hlw : lowN < w2.heap.size := by have := HH.out.2.1; have := HD.out.1.size; omega
    have HLW := hid hlw
    clear hcost hlen1 hlen2 hlw
    obtain ⟨nab, hnab⟩ : ∃ n, n = (shortV 3 a ++ shortV 3 b).length := ⟨_, rfl⟩
    obtain ⟨e1, he1⟩ : ∃ e, e = (evalW 20 (shortV 3 a ++ shortV 3 b) W).e := ⟨_, rfl⟩
    have HNE := hid (And.intro hnab he1)
    clear hnab he1
    go_upto_region 5 with (first | (at_builtin; refine wpList_append_rc rfl (.tmp 31) (.tmp 32) 22 rfl wc.heap.size 47 i47 (.agg #[.int .i64 0, .string ⟨#[]⟩, .string ⟨#[]⟩, .bool false, .slice none 0 0, .pointer none]) 6 80 Tryd.underlying22 hi hz0 hz1 hz2 rfl (by decide) (.slice (some ⟨wc.heap.size, 0, none⟩) 0 0) 0 [] rfl own_zero A1' l1.length d1 (l1.flatMap PartL.cells) rfl (HRR.out.1.alloc _) (pcs_one l1) (by unfold maxLen; omega) (by omega) (by simp) ?_; intro vx w5 hx5 hg5 ha5; have hb5 := app_below (w := wc) ((Below.refl _ _).alloc (Nat.le_refl _) _) (Nat.le_refl _) own_zero hg5; have H5 := hid (And.intro hx5 hb5); clear hx5 hg5 ha5 hb5) | (at_builtin; refine wpList_append_rc rfl (.tmp 33) (.tmp 34) 22 rfl wc.heap.size 47 i47 (.agg #[.int .i64 0, .string ⟨#[]⟩, .string ⟨#[]⟩, .bool false, .slice none 0 0, .pointer none]) 6 80 Tryd.underlying22 hi hz0 hz1 hz2 rfl (by decide) vx (0 + l1.length) ([] ++ l1.flatMap PartL.cells) rfl H5.out.1 A2' l2.length d2 (l2.flatMap PartL.cells) rfl (HRR.out.2.below H5.out.2) (pcs_one l2) (by unfold maxLen; omega) (by omega) H5.out.2.size ?_; intro vy w6 hx6 hg6 ha6; obtain ⟨Ay, cy, rfl, HPRE⟩ := pre_made HH.out.1 HH.out.2.1 HD.out.1 HLW.out HD.out.2.1 HD.out.2.2.1 HD.out.2.2.2.1 HD.out.2.2.2.2 HTW.out.2 HTW.out.1 H5.out.1 H5.out.2 hx6 hg6 nab HNE.out.1; clear hx6 hg6 ha6; have hc9 := HPRE.out.2.first HWD.out Ay cy HPRE.out.1 nab HNE.out.1 e1 HNE.out.2; have HC9 := hid hc9; clear hc9) | (go_at_call 9; refine HC9.out.mono ?_; rintro e w7 ⟨v7, rfl, S2, HM7⟩))
    clear H5 HPRE HC9 HRR HTW HX HFC
    obtain ⟨e2, he2⟩ : ∃ e, e = (evalW 20 (shortV 3 a) W).e := ⟨_, rfl⟩
    have hc9 := HM7.out.second HWD.out d1 l1.length HLN.out.1 e2 he2
    have HC9 := hid hc9
    have HE2 := hid he2
    clear hc9 he2
    go_upto_region 6 with (go_at_call 9; refine HC9.out.mono ?_; rintro e w8 ⟨y, rfl, HM8⟩)
    have hlw8 : lowN < w8.heap.size := by have := HM8.out.bel.size; have := HM8.out.w0l; omega
    have HLW8 := hid hlw8
    clear hlw8 HC9 HM7
    have hlaw := joins_law (shortV 3 a) (shortV 3 b) W
    rw [← HE2.out, ← HNE.out.2] at hlaw
    have HLAW := hid hlaw
    clear hlaw
    by_cases h2 : e2 = 0
    · obtain ⟨hl1, hl2, hl3⟩ := HLAW.out.2 h2
      have hc9 := HM8.out.third HWD.out d2 l2.length HLN.out.2 e1 hl1
      have HC9 := hid hc9
      have HL2 := hid (And.intro hl1 (And.intro hl2 hl3))
      have H2 := hid h2
      clear hc9 hl1 hl2 hl3 HLAW
      go_upto_region 9 with (go_at_call 9; refine HC9.out.mono ?_; rintro e w9 ⟨z, rfl, HM9⟩)
      obtain ⟨sn, hsn⟩ : ∃ s, s = (evalW 20 (shortV 3 b) (evalW 20 (shortV 3 a) W).s).s.seen := ⟨_, rfl⟩
      obtain ⟨q1, p1, g1, t1⟩ := HM9.out.seen
      obtain ⟨q2, p2, g2, t2⟩ := HM9.out.seen2
      rw [HL2.out.2.1, ← hsn] at g1 t1
      rw [← hsn] at g2 t2
      have hsl : sn.length ≤ 1000000000 := by
        have h3 := (evalW_len HWD.out.wb3).2.2
        have h4 := (evalW_len HWD.out.wb2).2.2
        rw [HWD.out.seen] at h4
        rw [hsn]
        simp only [List.length_nil] at h4
        omega
      have htx := fun w' hb => texts_same sn q1 q2 p1 p2 w' (t1.below hb) (t2.below hb) hsl
      have HTX := hid htx
      clear htx t1 t2 hsn hsl
      go_cut [87] (fun s87 wx => s87 = .bool false ∧ Hid (Below w9.heap.size w9 wx))
      case first =>
        refine wp_region_quiet_tail 12 (by kernel_rfl) (by kernel_rfl) ?_
        simp only [List.take_succ_cons, List.take_zero, List.drop_succ_cons, List.drop_zero]
        repeat (go_big_quiet_step (fail))
        refine wpQuiet_nil ?_
        intro w10 hw'
        obtain ⟨nr, hw2⟩ := hw'
        have hB10 : Below w9.heap.size w9 w10 := by rw [hw2]; exact below_drewN' (Below.refl _ _) nr
        clear hw2
        have HB10 := hid hB10
        clear hB10
        go_wp2_with (go_at_call 11; refine (HTX.out w10 HB10.out).mono ?_; rintro e w11 ⟨rfl, hb11⟩; have HB11 := hid hb11; clear hb11)
        go_meet
        exact ⟨rfl, hid (HB10.out.trans (HB11.out.mono HB10.out.size))⟩
      case rest =>
        obtain ⟨rfl, HBC⟩ := hcut
        rename World => wl
        have hT := HM9.out.tab.below HBC.out
        have hlc : lowN < wl.heap.size := by have := HM9.out.bel.size; have := HM9.out.w0l; have := HBC.out.size; omega
        have HWK := hid (fun (w' : World) (hb : Below wl.heap.size wl w') => works_any w' (hT.below hb) (by have := hb.size; omega))
        have HBW := hid (HM9.out.bel.trans (HBC.out.mono HM9.out.bel.size))
        clear hT hlc g1 g2 HTX
        by_cases h1 : e1 = 0
        · obtain ⟨hF, hY0, hZ0⟩ := HL2.out.2.2 (by rw [← HL2.out.1]; exact h1)
          have fx := HM9.out.fld (by rw [← HNE.out.2]; exact h1)
          have fy := HM9.out.fldy (by rw [← HE2.out]; exact H2.out)
          have fz := HM9.out.fldz (by rw [← HL2.out.1]; exact h1)
          have ly := (evalW_len HWD.out.wb2).1
          have lz := (evalW_len HWD.out.wb3).1
          have wx := (evalW_len HWD.out.wb1).2.1
          rw [hF] at wx
          have wy := (evalW_len HWD.out.wb2).2.1
          have wz := (evalW_len HWD.out.wb3).2.1
          rw [hF] at fx
          generalize (evalW 20 (shortV 3 a) W).F = Y at fx fy hY0 ly wy wx
          generalize (evalW 20 (shortV 3 b) (evalW 20 (shortV 3 a) W).s).F = Z at fx fz hZ0 lz wz wx
          have lx := joinF_len Y Z hY0 hZ0
          have py := List.length_pos_iff.2 hY0
          have pz := List.length_pos_iff.2 hZ0
          have hget := joinF_getD Y Z hY0 hZ0
          generalize joinF Y Z = X at fx lx hget wx
          have HX9 := hid wx
          clear wx
          obtain ⟨Ax, cx, hvx, rx⟩ := fx.rd
          obtain ⟨Ay, cy, hvy, ry⟩ := fy.rd
          obtain ⟨Az, cz, hvz, rz⟩ := fz.rd
          subst hvx hvy hvz
          have HWT := hid (And.intro wy wz)
          clear wy wz
          have HG := hid (And.intro hget (And.intro (rx.below HBC.out) (And.intro (ry.below HBC.out) (rz.below HBC.out))))
          obtain ⟨nx, hnx⟩ : ∃ n, n = X.length := ⟨_, rfl⟩
          obtain ⟨ny, hny⟩ : ∃ n, n = Y.length := ⟨_, rfl⟩
          obtain ⟨nz, hnz⟩ : ∃ n, n = Z.length := ⟨_, rfl⟩
          rw [← hnx, ← hny, ← hnz] at lx
          rw [← hny] at py ly
          rw [← hnz] at pz lz
          rw [← hnx, ← hny, ← hnz]
          have HN := hid (And.intro hnx (And.intro hny hnz))
          have iy0 : ((ny : Int) == 0) = false := by simp; omega
          have iz0 : ((nz : Int) == 0) = false := by simp; omega
          have ix : (ny : Int) + (nz : Int) - 1 = (nx : Int) := by omega
          have iyb : (ny : Int) ≤ 100000000 := by omega
          have izb : (nz : Int) ≤ 100000000 := by omega
          clear fx fy fz rx ry rz hget hnx hny hnz hF hY0 hZ0 HM9 HM8
          subst h1
          go_wp2_with fail
          obtain ⟨j0, hj, hr0, hr1, hr2⟩ := info_parts infoR
          go_loopg [15] nx (fun m v15 wr => ∃ i : Nat, m + i = nx ∧ v15 = .int .i64 i ∧ Hid (Below wl.heap.size wl wr))
          case atStart => exact ⟨0, by omega, rfl, hid (Below.refl _ _)⟩
          case round =>
            obtain ⟨i, hm, rfl, HB⟩ := hrel
            obtain ⟨gk1, hgk1⟩ : ∃ g, g = gk := ⟨_, rfl⟩
            subst hgk1
            have HM := hid hm
            clear hm
            by_cases hin : i < nx
            · have hinI : (i : Int) < (nx : Int) := by omega
              go_upto_if 129 with fail
              go_cut [16] (fun s16 wx => ∃ A c n, s16 = .slice A n c ∧ Hid (n = (if i < ny then Y.getD i [] else []).length ∧ wx.ownsRow wl.heap.size 40 3 (.slice A n c) n (rnv (if i < ny then Y.getD i [] else [])) ∧ Below wl.heap.size wl wx))
              case first =>
                by_cases hiy : i < ny
                · have hiyI : (i : Int) < (ny : Int) := by omega
                  obtain ⟨b1, o1, Ai, ci, hA, hg, hTi⟩ := HG.out.2.2.1 i (by rw [← HN.out.2.1]; exact hiy)
                  subst hA
                  have g1 := cell_blw hg HB.out
                  have hTi2 := hTi.below HB.out
                  obtain ⟨gi, hgi⟩ : ∃ g, g = Y.getD i [] := ⟨_, rfl⟩
                  have hgl : gi.length ≤ 100000000 := by
                    have h1 := wtR_getD Y i (by rw [← HN.out.2.1]; exact hiy)
                    have h2 := len_wtR (Y.getD i [])
                    have h3 := HWT.out.1
                    rw [hgi]
                    omega
                  rw [← hgi] at g1 hTi2
                  have HTI := hid hTi2
                  have HGI := hid hgi
                  have HIY := hid hiy
                  clear hg hTi hTi2 hgi hiy
                  go_wp2_with (at_builtin; refine wpList_append_rc rfl (.tmp 130) (.tmp 134) 38 rfl wl.heap.size 40 j0 (.agg #[.string ⟨#[]⟩, .bool false, .bool false]) 3 24 Tryd.underlying38 hj hr0 hr1 hr2 rfl (by decide) (.slice none 0 0) 0 [] rfl (World.ownsRow_nil _ _ _ _) Ai gi.length ci (rnv gi) rfl HTI.out.rc (rnv_one gi) (by unfold maxLen; omega) (by omega) HB.out.size ?_; intro v' w3 hown' hgrow hat'; rw [Nat.zero_add, List.nil_append] at hown'; have HB3 := hid (HB.out.trans (Below.of_grown hgrow HB.out.size (fun k hk => by cases hk))); obtain ⟨A3, c3, rfl, _, _⟩ := own_form hown'; have HO3 := hid hown'; clear hown' hgrow hat')
                  go_meet
                  exact ⟨A3, c3, gi.length, rfl, hid (by rw [if_pos HIY.out, ← HGI.out]; exact ⟨rfl, HO3.out, HB3.out⟩)⟩
                · have hiyI : ¬ (i : Int) < (ny : Int) := by omega
                  have HIY := hid hiy
                  clear hiy
                  go_wp2_with fail
                  go_meet
                  exact ⟨none, 0, 0, rfl, hid (by rw [if_neg HIY.out]; exact ⟨rfl, World.ownsRow_nil _ _ _ _, HB.out⟩)⟩
              case rest =>
                obtain ⟨A3, c3, n3, rfl, H3⟩ := hcut
                have hn3 : n3 ≤ 100000000 := by
                  have h0 := H3.out.1
                  by_cases hiy : i < ny
                  · rw [if_pos hiy] at h0
                    have h1 := wtR_getD Y i (by rw [← HN.out.2.1]; exact hiy)
                    have h2 := len_wtR (Y.getD i [])
                    have h3 := HWT.out.1
                    omega
                  · rw [if_neg hiy] at h0
                    simp only [List.length_nil] at h0
                    omega
                go_upto_if 140 with fail
                go_cut [16] (fun s16 wx => ∃ A c n, s16 = .slice A n c ∧ Hid (n = (X.getD i []).length ∧ wx.ownsRow wl.heap.size 40 3 (.slice A n c) n (rnv (X.getD i [])) ∧ Below wl.heap.size wl wx))
                case first =>
                  by_cases hiz : ny ≤ i + 1
                  · obtain ⟨jz, hjz⟩ : ∃ jz, jz = i + 1 - ny := ⟨_, rfl⟩
                    have hizI : (ny : Int) - 1 ≤ (i : Int) := by omega
                    have hjI : (i : Int) - (ny : Int) + 1 = (jz : Int) := by omega
                    have hjlt : jz < nz := by omega
                    have hjltI : (jz : Int) < (nz : Int) := by omega
                    obtain ⟨b1, o1, Ai, ci, hA, hg, hTi⟩ := HG.out.2.2.2 jz (by rw [← HN.out.2.2]; exact hjlt)
                    subst hA
                    have g1 := cell_blw hg H3.out.2.2
                    have hTi2 := hTi.below H3.out.2.2
                    obtain ⟨gi, hgi⟩ : ∃ g, g = Z.getD jz [] := ⟨_, rfl⟩
                    have hgl : gi.length ≤ 100000000 := by
                      have h1 := wtR_getD Z jz (by rw [← HN.out.2.2]; exact hjlt)
                      have h2 := len_wtR (Z.getD jz [])
                      have h3 := HWT.out.2
                      rw [hgi]
                      omega
                    rw [← hgi] at g1 hTi2
                    have hX : X.getD i [] = (if i < ny then Y.getD i [] else []) ++ gi := by
                      rw [HG.out.1 i, ← HN.out.2.1, if_pos hiz, ← hjz, hgi]
                    have HTI := hid hTi2
                    have HGI := hid hX
                    clear hg hTi hTi2 hgi hiz hX hjz hjlt
                    go_wp2_with (at_builtin; refine wpList_append_rc rfl (.tmp 141) (.tmp 149) 38 rfl wl.heap.size 40 j0 (.agg #[.string ⟨#[]⟩, .bool false, .bool false]) 3 24 Tryd.underlying38 hj hr0 hr1 hr2 rfl (by decide) (.slice A3 n3 c3) n3 (rnv (if i < ny then Y.getD i [] else [])) rfl H3.out.2.1 Ai gi.length ci (rnv gi) rfl HTI.out.rc (rnv_one gi) (by unfold maxLen; omega) (by omega) H3.out.2.2.size ?_; intro v' w3 hown' hgrow hat'; rw [← rnv_append, ← HGI.out] at hown'; have HB3 := hid (H3.out.2.2.trans (Below.of_grown hgrow H3.out.2.2.size (fun k hk => fown_above H3.out.2.1 hk))); obtain ⟨A4, c4, rfl, _, _⟩ := own_form hown'; have HO3 := hid hown'; clear hown' hgrow hat')
                    go_meet
                    exact ⟨A4, c4, n3 + gi.length, rfl, hid ⟨by rw [HGI.out, List.length_append, ← H3.out.1], HO3.out, HB3.out⟩⟩
                  · have hizI : (i : Int) < (ny : Int) - 1 := by omega
                    have hX : X.getD i [] = (if i < ny then Y.getD i [] else []) := by
                      rw [HG.out.1 i, ← HN.out.2.1, if_neg hiz, List.append_nil]
                    have HX := hid hX
                    clear hiz hX
                    go_wp2_with fail
                    go_meet
                    exact ⟨A3, c3, n3, rfl, hid (by rw [HX.out]; exact H3.out)⟩
                case rest =>
                  obtain ⟨A5, c5, n5, rfl, H5⟩ := hcut
                  rename World => wm
                  obtain ⟨b1, o1, Axi, cxi, hA, hg, hTi⟩ := HG.out.2.1 i (by rw [← HN.out.1]; exact hin)
                  subst hA
                  have g1 := cell_blw hg H5.out.2.2
                  have hTi2 := hTi.below H5.out.2.2
                  obtain ⟨gx, hgx⟩ : ∃ g, g = X.getD i [] := ⟨_, rfl⟩
                  have h5 := H5.out
                  rw [← hgx] at g1 hTi2 h5
                  have hw1 : Rns wm A5 gx := by have := (TR.of_own h5.2.1).rc; rw [h5.1] at this; exact this
                  have hw2 : Rns wm Axi gx := hTi2.rc
                  rw [← h5.1] at g1
                  have HW := hid (And.intro hw1 (And.intro hw2 h5.1))
                  have HBM := hid h5.2.2
                  have hn5 : n5 ≤ 1000000000 := by
                    have h1 := wtR_getD X i (by rw [← HN.out.1]; exact hin)
                    have h2 := len_wtR (X.getD i [])
                    have h3 := HX9.out
                    rw [h5.1, hgx]
                    omega
                  clear hg hTi hTi2 hgx h5 hw1 hw2 H5 H3
                  go_wp2_with fail
                  go_loopg [17] n5 (fun m v17 wr => ∃ k : Nat, m + k = n5 ∧ v17 = .int .i64 k ∧ Hid (Below wm.heap.size wm wr))
                  case atStart => exact ⟨0, by omega, rfl, hid (Below.refl _ _)⟩
                  case round =>
                    obtain ⟨k, hm, rfl, HBK⟩ := hrel
                    have HMK := hid hm
                    clear hm
                    by_cases hkn : k < n5
                    · have hknI : (k : Int) < (n5 : Int) := by omega
                      obtain ⟨b2, o2, hA5, _, y0, y1, y2⟩ := HW.out.1.at_ (i := k) (by have := HW.out.2.2; omega)
                      obtain ⟨b3, o3, hA6, _, z0, z1, z2⟩ := HW.out.2.1.at_ (i := k) (by have := HW.out.2.2; omega)
                      subst hA5 hA6
                      have y0' := cell_blw y0 HBK.out
                      have y1' := cell_blw y1 HBK.out
                      have y2' := cell_blw y2 HBK.out
                      have z0' := cell_blw z0 HBK.out
                      have z1' := cell_blw z1 HBK.out
                      have z2' := cell_blw z2 HBK.out
                      have g1' := cell_blw g1 HBK.out
                      generalize gx.getD k run0 = rk at *
                      obtain ⟨rt, rq, rs⟩ := rk
                      dsimp only at *
                      clear y0 y1 y2 z0 z1 z2 g1
                      go_wp2_with fail
                      go_quiet (fail)
                      go_wp2_with fail
                      go_roundg (gk - 1)
                      case measure =>
                        go_light
                        have := HMK.out
                        omega
                      case rel =>
                        go_light
                        exact ⟨k + 1, by have := HMK.out; omega, int_cast (by omega), hid (HBK.out.trans ((beq_drwN _ _).mono HBK.out.size))⟩
                    · have hke : k = n5 := by have := HMK.out; omega
                      subst hke
                      clear hkn
                      go_wp2_with fail
                      go_roundg (gk1 - 1)
                      case measure =>
                        go_light
                        have := HM.out
                        omega
                      case rel =>
                        go_light
                        exact ⟨i + 1, by have := HM.out; omega, int_cast (by omega), hid (HBM.out.trans (HBK.out.mono HBM.out.size))⟩
            · have hke : i = nx := by have := HM.out; omega
              subst hke
              clear hin
              go_wp2_with (go_at_call 10; refine (HWK.out _ HB.out).mono ?_; rintro e w12 ⟨rfl, hb12⟩)
              go_ret
              exact ⟨rfl, HBW.out.trans (HB.out.trans (hb12.mono HB.out.size) |>.mono HBW.out.size)⟩
        · have hv : v7 = .slice none 0 0 := HM9.out.nil (by rw [← HNE.out.2]; exact h1)
          have hz : z = .slice none 0 0 := HM9.out.nilz (by rw [← HL2.out.1]; exact h1)
          subst hv hz
          go_wp2_with (go_at_call 10; refine (HWK.out wl (Below.refl _ _)).mono ?_; rintro e w12 ⟨rfl, hb12⟩)
          go_ret
          exact ⟨rfl, HBW.out.trans (hb12.mono HBW.out.size)⟩
    · have he12 := HLAW.out.1 h2
      have hv : v7 = .slice none 0 0 := HM8.out.nil (by rw [← HNE.out.2, he12]; exact h2)
      have hy : y = .slice none 0 0 := HM8.out.nily (by rw [← HE2.out]; exact h2)
      subst hv hy he12
      go_wp2_with (go_at_call 10; refine (works_any w8 HM8.out.tab HLW8.out).mono ?_; rintro e w9 ⟨rfl, hb9⟩)
      go_ret
      exact ⟨rfl, HM8.out.bel.trans (hb9.mono HM8.out.bel.size)⟩
end Go.Proofs.YtklihdlfbhgpeaaDoor
