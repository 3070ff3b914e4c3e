/-
  The walk of ExpandQuoted: a quoted part. No conditions.
-/
import Derived.Test.YtklihdlfbhgpeaaDoorE25a
import Derived.Deep.RegionHeldLaw
namespace Go.Proofs.YtklihdlfbhgpeaaDoor
open Go.RowKit
set_option linter.unusedVariables false

set_option maxRecDepth 100000 in
set_option maxHeartbeats 4000000 in
theorem q_if53 {u0 u2 u3 u4 u6 u9 u10 u11 u12 u13 u14 u15 u16 u17 u18 u19 u20 u21 u22 u23 u24 u25 u26 u27 u28 u29 u30 u31 u32 u33 u34 u35 u36 u37 u38 u39 u40 u41 u42 u43 u44 u45 u46 u47 u48 u49 u50 u51 u52 u54 u55 u56 u57 u58 u59 u60 u61 u62 u63 u64 u65 u66 u67 u68 u69 u70 u71 u72 u73 u74 u75 u76 u77 u78 u79 u80 u81 u82 u83 u84 u85 u86 u87 u88 u89 u90 u91 u92 u93 u94 u95 u96 u97 u98 u99 u100 u101 u102 u103 u104 u105 u106 u107 u108 u109 u110 u111 u112 u113 u114 u115 u116 u117 u118 u119 u120 u121 u122 u123 u124 u125 u126 u127 u128 u129 u130 u131 u132 u133 u134 u135 u136 u137 u138 u139 u140 u141 u142 u143 u144 u145 u146 u147 u148 u149 u150 u151 u152 u153 u154 u155 u156 u157 u158 u159 u160 u161 u162 u163 u164 u165 u166 u167 u168 u169 u170 u171 u172 u173 u174 u175 u176 u177 u178 u179 u180 u181 u182 u183 : Value} (vs bs : List Str) (k b2 off2 c2 : Nat) (w wc : World) (lv : List (Str × Str)) (vA v5 : Value) (l : List PartL) (hk8 : k < 8) (hb : k < bs.length) (hl2 : b2 < w.heap.size) (hc2 : ∀ j u, (txv bs)[j]? = some u → w.cell? ⟨b2, off2 + j, none⟩ = some u)
    (HQ8 : Hid (QI w wc lv (wQ bs k) vA v5 l)) (J K1 K2 K3 : Act → World → Prop) (Post : Ending → World → Prop)
    (hJ : ∀ (s17 s18 s19 s20 s21 s22 s23 s24 s25 s26 s27 s28 s29 s30 s31 s32 s33 s34 s35 s36 s37 s38 s39 s40 s41 s42 s43 s44 s45 s46 s47 s48 s49 s50 s51 s52 s53 s54 s55 s56 s57 s58 s59 s60 s61 s62 s63 s64 s65 s66 s67 s68 s69 s70 s71 s72 s73 s74 s75 s76 s77 s78 s79 s80 s81 s82 s83 s84 s85 s86 s87 s88 s89 s90 s91 s92 s93 s94 s95 s96 s97 s98 s99 s100 s101 s102 s103 s104 s105 s106 s107 s108 s109 s110 s111 s112 s113 s114 s115 s116 s117 s118 s119 s120 s121 s122 s123 s124 s125 s126 s127 v' : Value) (l' : List PartL) (w3 : World), Hid (QI w w3 lv (wQ bs k ++ tQ bs k) vA v' l') → J ⟨List.toArray (u0 :: .slice (some ⟨b2, off2, none⟩) bs.length c2 :: u2 :: u3 :: u4 :: v' :: u6 :: .string ⟨(sQ vs bs k ++ bT bs k).toArray⟩ :: .int .i64 k :: u9 :: u10 :: u11 :: u12 :: u13 :: u14 :: u15 :: u16 :: s17 :: s18 :: s19 :: s20 :: s21 :: s22 :: s23 :: s24 :: s25 :: s26 :: s27 :: s28 :: s29 :: s30 :: s31 :: s32 :: s33 :: s34 :: s35 :: s36 :: s37 :: s38 :: s39 :: s40 :: s41 :: s42 :: s43 :: s44 :: s45 :: s46 :: s47 :: s48 :: s49 :: s50 :: s51 :: s52 :: s53 :: s54 :: s55 :: s56 :: s57 :: s58 :: s59 :: s60 :: s61 :: s62 :: s63 :: s64 :: s65 :: s66 :: s67 :: s68 :: s69 :: s70 :: s71 :: s72 :: s73 :: s74 :: s75 :: s76 :: s77 :: s78 :: s79 :: s80 :: s81 :: s82 :: s83 :: s84 :: s85 :: s86 :: s87 :: s88 :: s89 :: s90 :: s91 :: s92 :: s93 :: s94 :: s95 :: s96 :: s97 :: s98 :: s99 :: s100 :: s101 :: s102 :: s103 :: s104 :: s105 :: s106 :: s107 :: s108 :: s109 :: s110 :: s111 :: s112 :: s113 :: s114 :: s115 :: s116 :: s117 :: s118 :: s119 :: s120 :: s121 :: s122 :: s123 :: s124 :: s125 :: s126 :: s127 :: u128 :: u129 :: u130 :: u131 :: u132 :: u133 :: u134 :: u135 :: u136 :: u137 :: u138 :: u139 :: u140 :: u141 :: u142 :: u143 :: u144 :: u145 :: u146 :: u147 :: u148 :: u149 :: u150 :: u151 :: u152 :: u153 :: u154 :: u155 :: u156 :: u157 :: u158 :: u159 :: u160 :: u161 :: u162 :: u163 :: u164 :: u165 :: u166 :: u167 :: u168 :: u169 :: u170 :: u171 :: u172 :: u173 :: u174 :: u175 :: u176 :: u177 :: u178 :: u179 :: u180 :: u181 :: u182 :: u183 :: []), []⟩ w3) :
    Code.wp Tryd.prog (cond4 53) (Exit.then J (Exit.inBlock 1 (Exit.then K1 (Exit.then K2 (Exit.inBlock 0 (Exit.then K3 (bodyPost Tryd.prog Tryd.f4 Post))))))) ⟨List.toArray (u0 :: .slice (some ⟨b2, off2, none⟩) bs.length c2 :: u2 :: u3 :: u4 :: v5 :: u6 :: .string ⟨(sQ vs bs k).toArray⟩ :: .int .i64 k :: u9 :: u10 :: u11 :: u12 :: u13 :: u14 :: u15 :: u16 :: u17 :: u18 :: u19 :: u20 :: u21 :: u22 :: u23 :: u24 :: u25 :: u26 :: u27 :: u28 :: u29 :: u30 :: u31 :: u32 :: u33 :: u34 :: u35 :: u36 :: u37 :: u38 :: u39 :: u40 :: u41 :: u42 :: u43 :: u44 :: u45 :: u46 :: u47 :: u48 :: u49 :: u50 :: u51 :: u52 :: .bool (decide (k < bs.length)) :: u54 :: u55 :: u56 :: u57 :: u58 :: u59 :: u60 :: u61 :: u62 :: u63 :: u64 :: u65 :: u66 :: u67 :: u68 :: u69 :: u70 :: u71 :: u72 :: u73 :: u74 :: u75 :: u76 :: u77 :: u78 :: u79 :: u80 :: u81 :: u82 :: u83 :: u84 :: u85 :: u86 :: u87 :: u88 :: u89 :: u90 :: u91 :: u92 :: u93 :: u94 :: u95 :: u96 :: u97 :: u98 :: u99 :: u100 :: u101 :: u102 :: u103 :: u104 :: u105 :: u106 :: u107 :: u108 :: u109 :: u110 :: u111 :: u112 :: u113 :: u114 :: u115 :: u116 :: u117 :: u118 :: u119 :: u120 :: u121 :: u122 :: u123 :: u124 :: u125 :: u126 :: u127 :: u128 :: u129 :: u130 :: u131 :: u132 :: u133 :: u134 :: u135 :: u136 :: u137 :: u138 :: u139 :: u140 :: u141 :: u142 :: u143 :: u144 :: u145 :: u146 :: u147 :: u148 :: u149 :: u150 :: u151 :: u152 :: u153 :: u154 :: u155 :: u156 :: u157 :: u158 :: u159 :: u160 :: u161 :: u162 :: u163 :: u164 :: u165 :: u166 :: u167 :: u168 :: u169 :: u170 :: u171 :: u172 :: u173 :: u174 :: u175 :: u176 :: u177 :: u178 :: u179 :: u180 :: u181 :: u182 :: u183 :: []), []⟩ wc := by
  obtain ⟨i47, hi, hz0, hz1, hz2⟩ := info_parts infoP
  have HJ := hid hJ
  clear hJ
  have hbI : (k : Int) < (bs.length : Int) := by omega
  have y1 := cell_below (hc2 k _ (txv_get bs k hb)) HQ8.out.bel
  obtain ⟨t, ht⟩ : ∃ t, t = bs.getD k [] := ⟨_, rfl⟩
  rw [← ht] at y1
  obtain ⟨m2, hm2⟩ : ∃ m, m = min t.length 40 := ⟨_, rfl⟩
  have g1 : min (t.length : Int) 40 = (m2 : Int) := by omega
  have g2 : (m2 : Int) ≤ (t.length : Int) := by omega
  have hT2 : t.take m2 = bQ bs k := by rw [take_min t m2 40 hm2, ht]; rfl
  have HT2 := hid hT2
  have HB2 := hid hb
  have HC2 := hid (ht ▸ hc2 k _ (txv_get bs k hb))
  clear hl2 hc2 hm2 ht hT2
  have hll : (wQ bs k).length ≤ 16 := wQ_len bs k hk8
  have HLL := hid hll
  have hs8 := HQ8.out.bel.size
  conv => arg 2; whnf
  go_upto_region 10 with fail
  go_cut [5] (fun s5 wx => ∃ l', Hid (QI w wx lv (wQ bs k ++ [quoV (bQ bs k)]) vA s5 l'))
  case first =>
    go_region_held_law (fun w' => w'.cell? ⟨b2, off2 + k, none⟩ = some (.string ⟨t.toArray⟩)) (go_keep) (first
      | (refine step_append_at (w.heap.size + 1) 47 i47 (.agg #[.int .i64 0, .string ⟨#[]⟩, .string ⟨#[]⟩, .bool false, .slice none 0 0, .pointer none]) 6 80 Tryd.underlying22 hi hz0 hz1 hz2 (by rfl) (by decide) v5 (wQ bs k).length (l.flatMap PartL.cells) (by rfl) (by exact own_alloc HQ1.out.word.2.1 _) ⟨w1.heap.size, 0, none⟩ 1 1 [.int .i64 1, .string ⟨(t.take m2).toArray⟩, .string ⟨#[]⟩, .bool true, .slice none 0 0, .pointer none] (by rfl) (by rfl) (by exact HNW.out) (by simp [Value.oneCell']) (by unfold maxLen; omega) (by omega) (by simp; omega) ?_; intro v' w3 hown' hgrow hat'; have HF := hid (HQ1.out.push ((Below.refl _ _).alloc (Nat.le_refl _) _) ⟨quoV (t.take m2), none, 0, none⟩ rfl rfl (.inl rfl) hown' hgrow hat'); have e3 := cell_below HC2.out HF.out.bel)
      | (go_at_call 12; refine (quo_any (t.take m2) _).mono ?_; rintro e w1 ⟨rfl, hB1⟩; have hbw : Below wc.heap.size wc w1 := bel_any hB1 (bel_drw _); have HQ1 := hid (HQ8.out.below hbw); have e1 := cell_below HC2.out HQ1.out.bel; have hs1 := HQ1.out.bel.size; have HNW := hid (World.news_of_block (cs := #[.int .i64 1, .string ⟨(t.take m2).toArray⟩, .string ⟨#[]⟩, .bool true, .slice none 0 0, .pointer none]) (heap_alloc_new w1 (.cells #[.int .i64 1, .string ⟨(t.take m2).toArray⟩, .string ⟨#[]⟩, .bool true, .slice none 0 0, .pointer none] 47)))))
    all_goals
      clear hown' hgrow hat' e3
      go_wp2_with fail
      go_meet
      exact ⟨_, by have h := HF.out; rw [HT2.out] at h; exact hid h⟩
  case rest =>
    obtain ⟨l', HQ10⟩ := hcut
    have y2 := cell_below HC2.out HQ10.out.bel
    have hsl : (sQ vs bs k).length ≤ 960 := by have := sQ_len vs bs k; omega
    have hbl : (t.take m2).length ≤ 40 := by rw [List.length_take]; omega
    obtain ⟨S0, hS0⟩ : ∃ S0, S0 = sQ vs bs k := ⟨_, rfl⟩
    rw [← hS0] at hsl ⊢
    have HS0 := hid hS0
    clear hS0 y1 HQ8
    go_upto_region 11 with fail
    go_region_held (fun w' => w'.cell? ⟨b2, off2 + k, none⟩ = some (.string ⟨t.toArray⟩)) (go_keep) (fail)
    all_goals
      have e1 : S0 ++ t.take m2 = sQ vs bs k ++ bT bs k := by rw [bT, if_pos HB2.out, HT2.out, HS0.out]
      have e2 : wQ bs k ++ [quoV (bQ bs k)] = wQ bs k ++ tQ bs k := by rw [tQ, if_pos HB2.out]
      have h := HQ10.out
      rw [e2] at h
      have hj := fun s17 s18 s19 s20 s21 s22 s23 s24 s25 s26 s27 s28 s29 s30 s31 s32 s33 s34 s35 s36 s37 s38 s39 s40 s41 s42 s43 s44 s45 s46 s47 s48 s49 s50 s51 s52 s53 s54 s55 s56 s57 s58 s59 s60 s61 s62 s63 s64 s65 s66 s67 s68 s69 s70 s71 s72 s73 s74 s75 s76 s77 s78 s79 s80 s81 s82 s83 s84 s85 s86 s87 s88 s89 s90 s91 s92 s93 s94 s95 s96 s97 s98 s99 s100 s101 s102 s103 s104 s105 s106 s107 s108 s109 s110 s111 s112 s113 s114 s115 s116 s117 s118 s119 s120 s121 s122 s123 s124 s125 s126 s127 v' w3 => HJ.out s17 s18 s19 s20 s21 s22 s23 s24 s25 s26 s27 s28 s29 s30 s31 s32 s33 s34 s35 s36 s37 s38 s39 s40 s41 s42 s43 s44 s45 s46 s47 s48 s49 s50 s51 s52 s53 s54 s55 s56 s57 s58 s59 s60 s61 s62 s63 s64 s65 s66 s67 s68 s69 s70 s71 s72 s73 s74 s75 s76 s77 s78 s79 s80 s81 s82 s83 s84 s85 s86 s87 s88 s89 s90 s91 s92 s93 s94 s95 s96 s97 s98 s99 s100 s101 s102 s103 s104 s105 s106 s107 s108 s109 s110 s111 s112 s113 s114 s115 s116 s117 s118 s119 s120 s121 s122 s123 s124 s125 s126 s127 v' l' w3
      rw [← e1] at hj
      have HH := hid h
      have HJ2 := hid hj
      clear e1 e2 h hj
      go_wp2_with fail
      exact HJ2.out _ _ _ _ _ _ _ _ _ _ _ _ _ _ _ _ _ _ _ _ _ _ _ _ _ _ _ _ _ _ _ _ _ _ _ _ _ _ _ _ _ _ _ _ _ _ _ _ _ _ _ _ _ _ _ _ _ _ _ _ _ _ _ _ _ _ _ _ _ _ _ _ _ _ _ _ _ _ _ _ _ _ _ _ _ _ _ _ _ _ _ _ _ _ _ _ _ _ _ _ _ _ _ _ _ _ _ _ _ _ _ _ _ (hid (HH.out.below (bel_drw _)))
end Go.Proofs.YtklihdlfbhgpeaaDoor
