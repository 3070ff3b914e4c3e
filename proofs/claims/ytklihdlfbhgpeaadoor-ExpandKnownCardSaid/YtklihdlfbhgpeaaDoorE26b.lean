/-
  The walk of ExpandKnown: the table's loop. No conditions.
-/
import Derived.Test.YtklihdlfbhgpeaaDoorE26a
namespace Go.Proofs.YtklihdlfbhgpeaaDoor
open Go.RowKit
set_option linter.unusedVariables false

def findB (n : Nat) : Code → Option Code
  | .seq a b => match findB n a with
    | some c => some c
    | none => findB n b
  | .block k c => if k = n then some (.block k c) else findB n c
  | .scope c => findB n c
  | _ => none
noncomputable def blk6 (n : Nat) : Code := (Tryd.f6.body.bind (findB n)).getD .skip
set_option maxRecDepth 100000 in
set_option maxHeartbeats 4000000 in
theorem known_loop {u0 u2 u3 u4 u5 u6 u7 u8 u9 u10 u11 u12 u13 u14 u15 u16 u17 u18 u19 u20 u21 u22 u23 u24 u25 u26 u27 u28 u29 u30 u31 u32 u33 u34 u35 u36 u37 u38 u39 u40 u41 u42 u43 u44 u45 u46 u47 u48 u49 u50 u51 u52 u53 u54 u55 u56 u57 u58 u59 u60 u61 u62 u63 u64 u65 u66 u67 u68 u69 u70 u71 u72 u73 u74 u75 u76 u77 u78 u79 u80 u81 u82 u83 u84 u85 u86 u87 u88 u89 u90 u91 u92 u93 u94 u95 u96 u97 u98 u99 u100 u101 u102 u103 u104 u105 u106 u107 u108 u109 u110 u111 u112 u113 u114 u115 u116 u117 u118 u119 u120 u121 u122 u123 u127 u128 u129 u130 u131 u132 u133 u134 u135 u136 u137 u138 u139 u140 u141 u142 u143 u144 u145 u146 u147 u148 u149 u150 u151 u152 u153 u154 u155 u156 u157 u158 u159 u160 u161 u162 u163 u164 u165 u166 u167 u168 u169 u170 u171 u172 u173 u174 u175 u176 u177 u178 u179 u180 u181 : Value} (w V : World) (vb bt cL cA : Nat) (AL AA : Option Addr) (L3 : List (Option Addr × (List PartV × Str))) (HK0 : Hid (Below w.heap.size w V ∧ At V vb 26 #[.slice AL 2 cL, .slice AA 2 cA, .int .i64 7] ∧ ∀ B, VarsAt V B (.agg #[.slice AL 2 cL, .slice AA 2 cA, .int .i64 7]) varsV))
    (HT : Hid (Tab V)) (HT1 : Hid (TabAt V bt L3)) (K8 : Act → World → Prop)
    (hK8 : ∀ (s0 s1 s2 s3 s4 s5 s6 s7 s8 s9 s10 s11 s12 s13 s14 s15 s16 s17 s18 s19 s20 s21 s22 s23 s24 s25 s26 s27 s28 s29 s30 s31 s32 s33 s34 s35 s36 s37 s38 s39 s40 s41 s42 s43 s44 s45 s46 s47 s48 s49 s50 s51 s52 s53 s54 s55 s56 s57 s58 s59 s60 s61 s62 s63 s64 s65 s66 s67 s68 s69 s70 s71 s72 s73 s74 s75 s76 s77 s78 s79 s80 s81 s82 s83 s84 s85 s86 s87 s88 s89 s90 s91 s92 s93 s94 s95 s96 s97 s98 s99 s100 s101 s102 s103 s104 s105 s106 s107 s108 s109 s110 s111 s112 s113 s114 s115 s116 s117 s118 s119 s120 s121 s122 s123 s124 s125 s126 s127 s128 s129 s130 s131 s132 s133 s134 s135 s136 s137 s138 s139 s140 s141 s142 s143 s144 s145 s146 s147 s148 s149 s150 s151 s152 s153 s154 s155 s156 s157 s158 s159 s160 s161 s162 s163 s164 s165 s166 s167 s168 s169 s170 s171 s172 s173 s174 s175 s176 s177 s178 s179 s180 s181 : Value) (w' : World), Below w.heap.size w w' ∧ Tab w' → K8 ⟨List.toArray (s0 :: s1 :: s2 :: s3 :: s4 :: s5 :: s6 :: s7 :: s8 :: s9 :: s10 :: s11 :: s12 :: s13 :: s14 :: s15 :: s16 :: s17 :: s18 :: s19 :: s20 :: s21 :: s22 :: s23 :: s24 :: s25 :: s26 :: s27 :: s28 :: s29 :: s30 :: s31 :: s32 :: s33 :: s34 :: s35 :: s36 :: s37 :: s38 :: s39 :: s40 :: s41 :: s42 :: s43 :: s44 :: s45 :: s46 :: s47 :: s48 :: s49 :: s50 :: s51 :: s52 :: s53 :: s54 :: s55 :: s56 :: s57 :: s58 :: s59 :: s60 :: s61 :: s62 :: s63 :: s64 :: s65 :: s66 :: s67 :: s68 :: s69 :: s70 :: s71 :: s72 :: s73 :: s74 :: s75 :: s76 :: s77 :: s78 :: s79 :: s80 :: s81 :: s82 :: s83 :: s84 :: s85 :: s86 :: s87 :: s88 :: s89 :: s90 :: s91 :: s92 :: s93 :: s94 :: s95 :: s96 :: s97 :: s98 :: s99 :: s100 :: s101 :: s102 :: s103 :: s104 :: s105 :: s106 :: s107 :: s108 :: s109 :: s110 :: s111 :: s112 :: s113 :: s114 :: s115 :: s116 :: s117 :: s118 :: s119 :: s120 :: s121 :: s122 :: s123 :: s124 :: s125 :: s126 :: s127 :: s128 :: s129 :: s130 :: s131 :: s132 :: s133 :: s134 :: s135 :: s136 :: s137 :: s138 :: s139 :: s140 :: s141 :: s142 :: s143 :: s144 :: s145 :: s146 :: s147 :: s148 :: s149 :: s150 :: s151 :: s152 :: s153 :: s154 :: s155 :: s156 :: s157 :: s158 :: s159 :: s160 :: s161 :: s162 :: s163 :: s164 :: s165 :: s166 :: s167 :: s168 :: s169 :: s170 :: s171 :: s172 :: s173 :: s174 :: s175 :: s176 :: s177 :: s178 :: s179 :: s180 :: s181 :: []), []⟩ w') :
    Code.wp Tryd.prog (blk6 0) (Exit.then K8 (bodyPost Tryd.prog Tryd.f6 fun e w' => e = .returned (.bool true) ∧ Below w.heap.size w w')) ⟨List.toArray (u0 :: .pointer (some ⟨vb, 0, none⟩) :: u2 :: u3 :: u4 :: u5 :: u6 :: u7 :: u8 :: u9 :: u10 :: u11 :: u12 :: u13 :: u14 :: u15 :: u16 :: u17 :: u18 :: u19 :: u20 :: u21 :: u22 :: u23 :: u24 :: u25 :: u26 :: u27 :: u28 :: u29 :: u30 :: u31 :: u32 :: u33 :: u34 :: u35 :: u36 :: u37 :: u38 :: u39 :: u40 :: u41 :: u42 :: u43 :: u44 :: u45 :: u46 :: u47 :: u48 :: u49 :: u50 :: u51 :: u52 :: u53 :: u54 :: u55 :: u56 :: u57 :: u58 :: u59 :: u60 :: u61 :: u62 :: u63 :: u64 :: u65 :: u66 :: u67 :: u68 :: u69 :: u70 :: u71 :: u72 :: u73 :: u74 :: u75 :: u76 :: u77 :: u78 :: u79 :: u80 :: u81 :: u82 :: u83 :: u84 :: u85 :: u86 :: u87 :: u88 :: u89 :: u90 :: u91 :: u92 :: u93 :: u94 :: u95 :: u96 :: u97 :: u98 :: u99 :: u100 :: u101 :: u102 :: u103 :: u104 :: u105 :: u106 :: u107 :: u108 :: u109 :: u110 :: u111 :: u112 :: u113 :: u114 :: u115 :: u116 :: u117 :: u118 :: u119 :: u120 :: u121 :: u122 :: u123 :: .slice (some ⟨bt, 0, none⟩) 25 25 :: .int .i64 25 :: .int .i64 0 :: u127 :: u128 :: u129 :: u130 :: u131 :: u132 :: u133 :: u134 :: u135 :: u136 :: u137 :: u138 :: u139 :: u140 :: u141 :: u142 :: u143 :: u144 :: u145 :: u146 :: u147 :: u148 :: u149 :: u150 :: u151 :: u152 :: u153 :: u154 :: u155 :: u156 :: u157 :: u158 :: u159 :: u160 :: u161 :: u162 :: u163 :: u164 :: u165 :: u166 :: u167 :: u168 :: u169 :: u170 :: u171 :: u172 :: u173 :: u174 :: u175 :: u176 :: u177 :: u178 :: u179 :: u180 :: u181 :: []), []⟩ V := by
  have HK8 := hid hK8
  clear hK8
  conv => arg 2; whnf
  go_wp2_with fail
  go_loopg [126] 25 (fun m v126 wx => ∃ i : Nat, m + i = 25 ∧ v126 = .int .i64 i ∧ Hid (Below V.heap.size V wx))
  case atStart => exact ⟨0, rfl, rfl, hid (Below.refl _ _)⟩
  case round =>
    obtain ⟨i, hm, rfl, HQ⟩ := hrel
    have HM := hid hm
    clear hm
    by_cases hi : i < 25
    · obtain ⟨A, ps, want, x1, x2, hP, hs, hW⟩ := HT1.out.at_ hi
      have hiI : (i : Int) < 25 := by omega
      have y1 := cell_below x1 HQ.out
      have y2 := cell_below x2 HQ.out
      have hb := HK0.out.2.1.below HQ.out HK0.out.2.1.lt
      have k0 : wr.cell? ⟨vb, 0, none⟩ = some (.slice AL 2 cL) := by rw [hb.cell]; rfl
      have k1 : wr.cell? ⟨vb, 1, none⟩ = some (.slice AA 2 cA) := by rw [hb.cell]; rfl
      have k2 : wr.cell? ⟨vb, 2, none⟩ = some (.int .i64 7) := by rw [hb.cell]; rfl
      have hcall : ∀ W, Below wr.heap.size wr W → Calls Tryd.prog 17 #[.slice A ps.length ps.length, .agg #[.slice AL 2 cL, .slice AA 2 cA, .int .i64 7]] W fun e w' => e = .returned (.string ⟨want.toArray⟩) ∧ Below W.heap.size W w' := by
        intro W hBW
        have hVW : Below V.heap.size V W := HQ.out.trans (hBW.mono HQ.out.size)
        have hT := HT.out.below hVW
        have h := said_any W.heap.size varsV ps A ps.length _ W (Nat.le_refl _) hT.pos ((HK0.out.2.2 _).below hVW) hT (hP.below hVW 20) hW
        rw [hs] at h
        exact h
      have HCALL := hid hcall
      have hvl := hb.lt
      clear x1 x2 hP hs hW hb hcall
      go_upto_region 5 with fail
      obtain ⟨W4, hW⟩ : ∃ W, W = wr.alloc (.cells #[.slice A ps.length ps.length, .string ⟨want.toArray⟩] 53) := ⟨_, rfl⟩
      have hA : At W4 wr.heap.size 53 #[.slice A ps.length ps.length, .string ⟨want.toArray⟩] := by rw [hW]; exact heap_alloc_new wr _
      have hB : Below wr.heap.size wr W4 := by rw [hW]; exact (Below.refl _ _).alloc (Nat.le_refl _) _
      rw [← hW]
      have z0 : W4.cell? ⟨wr.heap.size, 0, none⟩ = some (.slice A ps.length ps.length) := by rw [hA.cell]; rfl
      have z1 : W4.cell? ⟨wr.heap.size, 1, none⟩ = some (.string ⟨want.toArray⟩) := by rw [hA.cell]; rfl
      have z2 := cell_below k0 hB
      have z3 := cell_below k1 hB
      have z4 := cell_below k2 hB
      have H4 := hid hB
      have hc := HCALL.out W4.drew (bel_any (bel_drw _) hB)
      have HC := hid hc
      clear hW hA hB k0 k1 k2 y1 y2 hc
      go_cut [137] (fun s137 wx => s137 = .bool false ∧ Hid (Below wr.heap.size wr wx))
      case first =>
        go_region_with (go_at_call 17; refine HC.out.mono ?_; rintro e w5 ⟨rfl, hB5d⟩; have hB5 : Below W4.heap.size W4 w5 := bel_any hB5d (bel_drw _); have e0 := cell_below z0 hB5; have e1 := cell_below z1 hB5; have e2 := cell_below z2 hB5; have e3 := cell_below z3 hB5; have e4 := cell_below z4 hB5; have H5 := hid hB5)
        all_goals
          have HH := hid (H4.out.trans (H5.out.mono H4.out.size))
          clear HC HCALL hB5 hB5d
          go_wp2_with fail
          go_meet
          exact ⟨by first | rfl | simp, HH⟩
      case rest =>
        obtain ⟨rfl, HB5⟩ := hcut
        have HZ := hid (HQ.out.trans (HB5.out.mono HQ.out.size))
        clear z0 z1 z2 z3 z4
        go_wp2_with fail
        go_roundg (gk - 1)
        case measure =>
          go_light
          have := HM.out
          omega
        case rel =>
          go_light
          exact ⟨i + 1, by have := HM.out; omega, int_cast (by omega), HZ⟩
    · have hi25 : i = 25 := by have := HM.out; omega
      subst hi25
      go_wp2_with fail
      exact HK8.out _ _ _ _ _ _ _ _ _ _ _ _ _ _ _ _ _ _ _ _ _ _ _ _ _ _ _ _ _ _ _ _ _ _ _ _ _ _ _ _ _ _ _ _ _ _ _ _ _ _ _ _ _ _ _ _ _ _ _ _ _ _ _ _ _ _ _ _ _ _ _ _ _ _ _ _ _ _ _ _ _ _ _ _ _ _ _ _ _ _ _ _ _ _ _ _ _ _ _ _ _ _ _ _ _ _ _ _ _ _ _ _ _ _ _ _ _ _ _ _ _ _ _ _ _ _ _ _ _ _ _ _ _ _ _ _ _ _ _ _ _ _ _ _ _ _ _ _ _ _ _ _ _ _ _ _ _ _ _ _ _ _ _ _ _ _ _ _ _ _ _ _ _ _ _ _ _ _ _ _ _ _ _ ⟨HK0.out.1.trans (HQ.out.mono HK0.out.1.size), HT.out.below HQ.out⟩
end Go.Proofs.YtklihdlfbhgpeaaDoor
