/-
  The walk of ExpandKnown: behind its table. No conditions.
-/
import Derived.Test.YtklihdlfbhgpeaaDoorKnoM
import Derived.Deep.RegionHeldLaw
namespace Go.Proofs.YtklihdlfbhgpeaaDoor
open Go.RowKit
set_option linter.unusedVariables false

/-- What stands from a region on; a block. -/
def headR6 : Code → Option Nat
  | .region k _ _ => some k
  | .seq a _ => headR6 a
  | _ => none
def fromR6 (n : Nat) : Code → Option Code
  | .seq a b => if headR6 a = some n then some (.seq a b) else match fromR6 n a with
    | some c => some c
    | none => fromR6 n b
  | .block _ c => fromR6 n c
  | .scope c => fromR6 n c
  | _ => none
noncomputable def tail6 (n : Nat) : Code := (Tryd.f6.body.bind (fromR6 n)).getD .skip
theorem deepV_length (k : Nat) : (deepV k).length = 1 := by cases k <;> rfl
theorem bel_any {w wa wb : World} (h : Below wa.heap.size wa wb) (k : Below w.heap.size w wa) : Below w.heap.size w wb := k.trans (h.mono k.size)
theorem bel_drw (w : World) : Below w.heap.size w w.drew := ⟨rfl, rfl, rfl, Nat.le_refl _, fun _ _ => rfl⟩
theorem bel_drwN (w : World) (n : Nat) : Below w.heap.size w (w.drewN n) := ⟨rfl, rfl, rfl, Nat.le_refl _, fun _ _ => rfl⟩
def boxN : Value := .agg #[.slice none 0 0, .slice none 0 0, .int .i64 0]
theorem none_at (w : World) (B : Nat) : VarsAt w B (.agg #[.slice none 0 0, .slice none 0 0, .int .i64 0]) noneV :=
  ⟨rfl, .slice none 0 0, none, 0, rfl, World.ownsRow_nil _ _ _ _, .inl fun r hr => (by cases hr), TR.nil⟩
theorem said_deep19 (b : Nat) (W : World) (hT : Tab W) (hP : PA W (some ⟨b, 0, none⟩) (deepV 19)) : Calls Tryd.prog 17 #[.slice (some ⟨b, 0, none⟩) 1 1, .agg #[.slice none 0 0, .slice none 0 0, .int .i64 0]] W fun e w' => e = .returned (.string ⟨#[91, 40, 97, 41, 93]⟩) ∧ Below W.heap.size W w' := by
  have h := said_any W.heap.size noneV (deepV 19) (some ⟨b, 0, none⟩) 1 _ W (Nat.le_refl _) hT.pos (none_at _ _) hT (hP 20) deep19_wb
  rw [deepV_length, deep19_said] at h
  exact h
theorem said_deep20 (b : Nat) (W : World) (hT : Tab W) (hP : PA W (some ⟨b, 0, none⟩) (deepV 20)) : Calls Tryd.prog 17 #[.slice (some ⟨b, 0, none⟩) 1 1, .agg #[.slice none 0 0, .slice none 0 0, .int .i64 0]] W fun e w' => e = .returned (.string ⟨#[33, 100]⟩) ∧ Below W.heap.size W w' := by
  have h := said_any W.heap.size noneV (deepV 20) (some ⟨b, 0, none⟩) 1 _ W (Nat.le_refl _) hT.pos (none_at _ _) hT (hP 20) deep20_wb
  rw [deepV_length, deep20_said] at h
  exact h
theorem said_all (b : Nat) (W : World) (hT : Tab W) (hP : PA W (some ⟨b, 0, none⟩) [parV [64] [] true []]) : Calls Tryd.prog 17 #[.slice (some ⟨b, 0, none⟩) 1 1, .agg #[.slice none 0 0, .slice none 0 0, .int .i64 0]] W fun e w' => e = .returned (.string ⟨#[91, 93]⟩) ∧ Below W.heap.size W w' := by
  have h := said_any W.heap.size noneV [parV [64] [] true []] (some ⟨b, 0, none⟩) 1 _ W (Nat.le_refl _) hT.pos (none_at _ _) hT (hP 20) (wb_small noneV_ok (by decide +kernel) (by decide) (by decide))
  rw [all_said] at h
  exact h
set_option maxRecDepth 100000 in
set_option maxHeartbeats 4000000 in
theorem known_tail8 {u0 u1 u2 u3 u4 u5 u6 u7 u8 u9 u10 u11 u12 u13 u14 u15 u16 u17 u18 u19 u20 u21 u22 u23 u24 u25 u26 u27 u28 u29 u30 u31 u32 u33 u34 u35 u36 u37 u38 u39 u40 u41 u42 u43 u44 u45 u46 u47 u48 u49 u50 u51 u52 u53 u54 u55 u56 u57 u58 u59 u60 u61 u62 u63 u64 u65 u66 u67 u68 u69 u70 u71 u72 u73 u74 u75 u76 u77 u78 u79 u80 u81 u82 u83 u84 u85 u86 u87 u88 u89 u90 u91 u92 u93 u94 u95 u96 u97 u98 u99 u100 u101 u102 u103 u104 u105 u106 u107 u108 u109 u110 u111 u112 u113 u114 u115 u116 u117 u118 u119 u120 u121 u122 u123 u124 u125 u126 u127 u128 u129 u130 u131 u132 u133 u134 u135 u136 u137 u138 u139 u140 u141 u142 u143 u144 u145 u146 u147 u148 u149 u150 u151 u152 u153 u154 u155 u156 u157 u158 u159 u160 u161 u162 u163 u164 u165 u166 u167 u168 u169 u170 u171 u172 u173 u174 u175 u176 u177 u178 u179 u180 u181 : Value} (w V : World) (HV : Hid (Below w.heap.size w V ∧ Tab V)) :
    Code.wp Tryd.prog (tail6 8) (bodyPost Tryd.prog Tryd.f6 fun e w' => e = .returned (.bool true) ∧ Below w.heap.size w w') ⟨List.toArray (u0 :: u1 :: u2 :: u3 :: u4 :: u5 :: u6 :: u7 :: u8 :: u9 :: u10 :: u11 :: u12 :: u13 :: u14 :: u15 :: u16 :: u17 :: u18 :: u19 :: u20 :: u21 :: u22 :: u23 :: u24 :: u25 :: u26 :: u27 :: u28 :: u29 :: u30 :: u31 :: u32 :: u33 :: u34 :: u35 :: u36 :: u37 :: u38 :: u39 :: u40 :: u41 :: u42 :: u43 :: u44 :: u45 :: u46 :: u47 :: u48 :: u49 :: u50 :: u51 :: u52 :: u53 :: u54 :: u55 :: u56 :: u57 :: u58 :: u59 :: u60 :: u61 :: u62 :: u63 :: u64 :: u65 :: u66 :: u67 :: u68 :: u69 :: u70 :: u71 :: u72 :: u73 :: u74 :: u75 :: u76 :: u77 :: u78 :: u79 :: u80 :: u81 :: u82 :: u83 :: u84 :: u85 :: u86 :: u87 :: u88 :: u89 :: u90 :: u91 :: u92 :: u93 :: u94 :: u95 :: u96 :: u97 :: u98 :: u99 :: u100 :: u101 :: u102 :: u103 :: u104 :: u105 :: u106 :: u107 :: u108 :: u109 :: u110 :: u111 :: u112 :: u113 :: u114 :: u115 :: u116 :: u117 :: u118 :: u119 :: u120 :: u121 :: u122 :: u123 :: u124 :: u125 :: u126 :: u127 :: u128 :: u129 :: u130 :: u131 :: u132 :: u133 :: u134 :: u135 :: u136 :: u137 :: u138 :: u139 :: u140 :: u141 :: u142 :: u143 :: u144 :: u145 :: u146 :: u147 :: u148 :: u149 :: u150 :: u151 :: u152 :: u153 :: u154 :: u155 :: u156 :: u157 :: u158 :: u159 :: u160 :: u161 :: u162 :: u163 :: u164 :: u165 :: u166 :: u167 :: u168 :: u169 :: u170 :: u171 :: u172 :: u173 :: u174 :: u175 :: u176 :: u177 :: u178 :: u179 :: u180 :: u181 :: []), []⟩ V := by
  conv => arg 2; whnf
  go_wp2_with fail
  refine (litp_any [97] V).mono ?_
  rintro e w1 ⟨rfl, hB1⟩
  have HV1 := hid (And.intro (HV.out.1.trans (hB1.mono HV.out.1.size)) (HV.out.2.below hB1))
  clear hB1
  go_wp2_with fail
  obtain ⟨W2, hW⟩ : ∃ W, W = w1.alloc (.cells #[.int .i64 0, .string ⟨#[97]⟩, .string ⟨#[]⟩, .bool false, .slice none 0 0, .pointer none] 47) := ⟨_, rfl⟩
  have hA : At W2 w1.heap.size 47 #[.int .i64 0, .string ⟨#[97]⟩, .string ⟨#[]⟩, .bool false, .slice none 0 0, .pointer none] := by rw [hW]; exact heap_alloc_new w1 _
  have hB : Below w1.heap.size w1 W2 := by rw [hW]; exact (Below.refl _ _).alloc (Nat.le_refl _) _
  rw [← hW]
  have HP0 := hid (PA.mk [⟨litV [97], none, 0, none⟩] hA rfl (by
    intro x hx
    simp only [List.mem_cons, List.not_mem_nil, or_false] at hx
    rcases hx with rfl
    exact ⟨PA.nil _ _, rfl⟩))
  have HV2 := hid (And.intro (HV1.out.1.trans (hB.mono HV1.out.1.size)) (And.intro (HV1.out.2.below hB) HP0.out))
  clear hA hB hW HP0 HV1
  go_loopg [4, 5] 19 (fun m v4 v5 wx => ∃ k b : Nat, m + k = 19 ∧ v5 = .int .i64 k ∧ v4 = .slice (some ⟨b, 0, none⟩) 1 1 ∧ Hid (Below w.heap.size w wx ∧ Tab wx ∧ PA wx (some ⟨b, 0, none⟩) (deepV k)))
  case atStart => exact ⟨0, _, rfl, rfl, rfl, HV2⟩
  case round =>
    obtain ⟨k, b, hm, rfl, rfl, HQ⟩ := hrel
    have HM := hid hm
    clear hm
    by_cases hk : k < 19
    · have hkI : (k : Int) < 19 := by omega
      go_wp2_with fail
      refine (par_any [122] [45] false (some ⟨b, 0, none⟩) 1 1 _).mono ?_
      rintro e w3 ⟨rfl, hB3⟩
      have hBx := HQ.out.1.trans (hB3.mono HQ.out.1.size)
      have hTx := HQ.out.2.1.below hB3
      have hPx := HQ.out.2.2.below hB3
      have HX := hid (And.intro hBx (And.intro hTx hPx))
      clear hB3 hBx hTx hPx
      go_wp2_with fail
      obtain ⟨W4, hW⟩ : ∃ W, W = w3.alloc (.cells #[.int .i64 2, .string ⟨#[122]⟩, .string ⟨#[45]⟩, .bool false, .slice (some ⟨b, 0, none⟩) 1 1, .pointer none] 47) := ⟨_, rfl⟩
      have hA : At W4 w3.heap.size 47 #[.int .i64 2, .string ⟨#[122]⟩, .string ⟨#[45]⟩, .bool false, .slice (some ⟨b, 0, none⟩) 1 1, .pointer none] := by rw [hW]; exact heap_alloc_new w3 _
      have hB : Below w3.heap.size w3 W4 := by rw [hW]; exact (Below.refl _ _).alloc (Nat.le_refl _) _
      rw [← hW]
      have hp : PA W4 (some ⟨w3.heap.size, 0, none⟩) (deepV (k + 1)) := PA.mk [⟨parV [122] [45] false (deepV k), some ⟨b, 0, none⟩, 1, none⟩] hA (by simp [PartL.cells, pcs, parV, PartV.kind, PartV.text, PartV.op, PartV.q, PartV.word, deepV_length]) (by
        intro x hx
        simp only [List.mem_cons, List.not_mem_nil, or_false] at hx
        rcases hx with rfl
        exact ⟨HX.out.2.2.below hB, rfl⟩)
      have HY := hid (And.intro (HX.out.1.trans (hB.mono HX.out.1.size)) (And.intro (HX.out.2.1.below hB) hp))
      clear hA hB hW hp HX
      go_roundg (gk - 1)
      case measure =>
        go_light
        have := HM.out
        omega
      case rel =>
        go_light
        exact ⟨k + 1, _, by have := HM.out; omega, int_cast (by omega), rfl, HY⟩
    · have hk19 : k = 19 := by have := HM.out; omega
      subst hk19
      clear hk HM
      go_wp2_with fail
      refine (expand_nil _ 1 1 wr).mono ?_
      rintro e w5 ⟨rfl, rfl⟩
      go_upto_region 15 with fail
      obtain ⟨W6, hW⟩ : ∃ W, W = w5.alloc (.cells #[.slice none 0 0, .slice none 0 0, .int .i64 0] 26) := ⟨_, rfl⟩
      have hA : At W6 w5.heap.size 26 #[.slice none 0 0, .slice none 0 0, .int .i64 0] := by rw [hW]; exact heap_alloc_new w5 _
      have hB : Below w5.heap.size w5 W6 := by rw [hW]; exact (Below.refl _ _).alloc (Nat.le_refl _) _
      rw [← hW]
      obtain ⟨bx, hbx⟩ : ∃ b, b = w5.heap.size := ⟨_, rfl⟩
      rw [← hbx] at hA
      rw [← hbx]
      have h6 := And.intro (HQ.out.1.trans (hB.mono HQ.out.1.size)) (And.intro (HQ.out.2.1.below hB) (HQ.out.2.2.below hB))
      have c0 : W6.cell? ⟨bx, 0, none⟩ = some (.slice none 0 0) := by rw [hA.cell]; rfl
      have c1 : W6.cell? ⟨bx, 1, none⟩ = some (.slice none 0 0) := by rw [hA.cell]; rfl
      have c2 : W6.cell? ⟨bx, 2, none⟩ = some (.int .i64 0) := by rw [hA.cell]; rfl
      have H6 := hid h6
      have HC := hid hA
      clear hA hB hW hbx h6 HQ
      have D20 : ∀ W : World, PA W (some ⟨b, 0, none⟩) (deepV 19) → ∀ n, At W n 47 #[.int .i64 2, .string ⟨#[122]⟩, .string ⟨#[45]⟩, .bool false, .slice (some ⟨b, 0, none⟩) 1 1, .pointer none] → PA W (some ⟨n, 0, none⟩) (deepV 20) := fun W h n hA => PA.mk [⟨parV [122] [45] false (deepV 19), some ⟨b, 0, none⟩, 1, none⟩] hA (by simp [PartL.cells, pcs, parV, PartV.kind, PartV.text, PartV.op, PartV.q, PartV.word, deepV_length]) (by
        intro x hx
        simp only [List.mem_cons, List.not_mem_nil, or_false] at hx
        rcases hx with rfl
        exact ⟨h, rfl⟩)
      have DAL : ∀ W : World, ∀ n, At W n 47 #[.int .i64 2, .string ⟨#[64]⟩, .string ⟨#[]⟩, .bool true, .slice none 0 0, .pointer none] → PA W (some ⟨n, 0, none⟩) [parV [64] [] true []] := fun W n hA => PA.mk [⟨parV [64] [] true [], none, 0, none⟩] hA rfl (by
        intro x hx
        simp only [List.mem_cons, List.not_mem_nil, or_false] at hx
        rcases hx with rfl
        exact ⟨PA.nil _ _, rfl⟩)
      have DD := hid (And.intro D20 DAL)
      have hd6 : Tab W6.drew ∧ PA W6.drew (some ⟨b, 0, none⟩) (deepV 19) := ⟨H6.out.2.1.below (bel_drw _), H6.out.2.2.below (bel_drw _)⟩
      have HD6 := hid hd6
      clear D20 DAL hd6
      go_region_held_law (fun w' => w'.cell? ⟨bx, 0, none⟩ = some (.slice none 0 0) ∧ w'.cell? ⟨bx, 1, none⟩ = some (.slice none 0 0) ∧ w'.cell? ⟨bx, 2, none⟩ = some (.int .i64 0)) (go_keep) (first
        | (go_at_call 17; (with_reducible (refine (said_deep19 b W6.drew HD6.out.1 HD6.out.2).mono ?_)); rintro e w7 ⟨rfl, hB7d⟩; have hB7 : Below W6.heap.size W6 w7 := bel_any hB7d (bel_drw _); have d0 := cell_below c0 hB7; have d1 := cell_below c1 hB7; have d2 := cell_below c2 hB7; have H7 := hid (And.intro (H6.out.1.trans (hB7.mono H6.out.1.size)) (And.intro (H6.out.2.1.below hB7) (H6.out.2.2.below hB7))))
        | (go_at_call 13; (with_reducible (refine (par_any [122] [45] false (some ⟨b, 0, none⟩) 1 1 w7).mono ?_)); rintro e w8 ⟨rfl, hB8⟩; have d3 := cell_below d0 hB8; have d4 := cell_below d1 hB8; have d5 := cell_below d2 hB8; have H8 := hid (And.intro (H7.out.1.trans (hB8.mono H7.out.1.size)) (And.intro (H7.out.2.1.below hB8) (H7.out.2.2.below hB8))))
        | (go_at_call 17; have hb9 : Below w8.heap.size w8 (w8.alloc (.cells #[.int .i64 2, .string ⟨#[122]⟩, .string ⟨#[45]⟩, .bool false, .slice (some ⟨b, 0, none⟩) 1 1, .pointer none] 47)) := (Below.refl _ _).alloc (Nat.le_refl _) _; have t9 := H8.out.2.1.below hb9; have p9 := DD.out.1 _ (H8.out.2.2.below hb9) _ (heap_alloc_new w8 (.cells #[.int .i64 2, .string ⟨#[122]⟩, .string ⟨#[45]⟩, .bool false, .slice (some ⟨b, 0, none⟩) 1 1, .pointer none] 47)); (with_reducible (refine (said_deep20 w8.heap.size (w8.alloc (.cells #[.int .i64 2, .string ⟨#[122]⟩, .string ⟨#[45]⟩, .bool false, .slice (some ⟨b, 0, none⟩) 1 1, .pointer none] 47)) t9 p9).mono ?_)); rintro e w9 ⟨rfl, hB9⟩; have d6 := cell_below (cell_below d3 hb9) hB9; have d7 := cell_below (cell_below d4 hb9) hB9; have d8 := cell_below (cell_below d5 hb9) hB9; have H9 := hid (And.intro ((H8.out.1.trans (hb9.mono H8.out.1.size)).trans (hB9.mono (Nat.le_trans H8.out.1.size hb9.size))) ((H8.out.2.1.below hb9).below hB9)))
        | (go_at_call 13; (with_reducible (refine (par_any [64] [] true none 0 0 w9).mono ?_)); rintro e w10 ⟨rfl, hB10⟩; have d9 := cell_below d6 hB10; have d10 := cell_below d7 hB10; have d11 := cell_below d8 hB10; have H10 := hid (And.intro (H9.out.1.trans (hB10.mono H9.out.1.size)) (H9.out.2.below hB10)))
        | (go_at_call 17; have hb11 : Below w10.heap.size w10 (w10.alloc (.cells #[.int .i64 2, .string ⟨#[64]⟩, .string ⟨#[]⟩, .bool true, .slice none 0 0, .pointer none] 47)) := (Below.refl _ _).alloc (Nat.le_refl _) _; have t11 := H10.out.2.below hb11; have p11 := DD.out.2 _ _ (heap_alloc_new w10 (.cells #[.int .i64 2, .string ⟨#[64]⟩, .string ⟨#[]⟩, .bool true, .slice none 0 0, .pointer none] 47)); (with_reducible (refine (said_all w10.heap.size (w10.alloc (.cells #[.int .i64 2, .string ⟨#[64]⟩, .string ⟨#[]⟩, .bool true, .slice none 0 0, .pointer none] 47)) t11 p11).mono ?_)); rintro e w11 ⟨rfl, hB11⟩; have d12 := cell_below (cell_below d9 hb11) hB11; have d13 := cell_below (cell_below d10 hb11) hB11; have d14 := cell_below (cell_below d11 hb11) hB11; have H11 := hid (And.intro ((H10.out.1.trans (hb11.mono H10.out.1.size)).trans (hB11.mono (Nat.le_trans H10.out.1.size hb11.size))) ((H10.out.2.below hb11).below hB11)))
        | (go_at_call 10; (refine (works_any w11 H11.out.2).mono ?_); rintro e w12 ⟨rfl, hB12⟩; have d15 := cell_below d12 hB12; have d16 := cell_below d13 hB12; have d17 := cell_below d14 hB12; have H12 := hid (H11.out.1.trans (hB12.mono H11.out.1.size))))
      all_goals
        go_wp2_with fail
        go_ret
        exact ⟨rfl, H12.out⟩
end Go.Proofs.YtklihdlfbhgpeaaDoor
