/-
  The walk of ExpandTrims: a quoted text. No conditions.
-/
import Derived.Test.YtklihdlfbhgpeaaDoorE24b
namespace Go.Proofs.YtklihdlfbhgpeaaDoor
open Go.RowKit
set_option linter.unusedVariables false

set_option maxRecDepth 100000 in
set_option maxHeartbeats 4000000 in
theorem trims_tail12 {u2 u3 u9 u10 u11 u12 u13 u14 u15 u16 u17 u18 u19 u20 u21 u22 u23 u24 u25 u26 u27 u28 u29 u30 u31 u32 u33 u34 u35 u36 u37 u38 u39 u40 u41 u42 u43 u44 u45 u46 u47 u48 u49 u50 u51 u52 u53 u54 u55 u56 u57 u58 u59 u60 u61 u62 u63 u64 u65 u66 u67 u68 u69 u70 u71 u72 u73 u74 u75 u76 u77 u78 u79 u80 u81 u82 u83 u84 u85 u86 u87 u88 u89 u90 u91 u92 u93 u94 u95 u96 u97 u98 u99 u100 u101 u102 u103 u104 u105 u106 u107 u108 u109 u110 u111 u112 u113 u114 u115 u116 u117 u118 u119 u120 u121 u122 u123 u124 u125 u126 u127 u128 u129 u130 u131 u132 u133 u134 u135 u136 u137 u138 u139 u140 u141 u142 u143 u144 u145 u146 u147 u148 u149 u150 u151 u152 u153 u154 u155 u156 u157 u158 u159 u160 u161 u162 u163 u164 u165 u166 u167 u168 u169 u170 u171 u172 u173 u174 u175 u176 u177 u178 u179 u180 u181 u182 u183 u184 u185 u186 u187 u188 u189 u190 u191 : Value} (s t : Str) (w wc : World) (hs60 : s.length ≤ 60) (ht20 : t.length ≤ 20) (HV10 : Hid (Below w.heap.size w wc ∧ VBox wc (w.heap.size + 1) s ∧ Tab wc)) :
    Code.wp Tryd.prog (tail5 12) (bodyPost Tryd.prog Tryd.f5 fun e w' => e = .returned (.bool true) ∧ Below w.heap.size w w') ⟨List.toArray (.string ⟨s.toArray⟩ :: .string ⟨t.toArray⟩ :: u2 :: u3 :: .bool false :: .pointer (some ⟨w.heap.size + 1, 0, none⟩) :: .func (.func 15) #[] #[.pointer (some ⟨w.heap.size + 1, 0, none⟩)] :: .string ⟨(wantV s t).toArray⟩ :: .string ⟨(endV s t).toArray⟩ :: u9 :: u10 :: u11 :: u12 :: u13 :: u14 :: u15 :: u16 :: u17 :: u18 :: u19 :: u20 :: u21 :: u22 :: u23 :: u24 :: u25 :: u26 :: u27 :: u28 :: u29 :: u30 :: u31 :: u32 :: u33 :: u34 :: u35 :: u36 :: u37 :: u38 :: u39 :: u40 :: u41 :: u42 :: u43 :: u44 :: u45 :: u46 :: u47 :: u48 :: u49 :: u50 :: u51 :: u52 :: u53 :: u54 :: u55 :: u56 :: u57 :: u58 :: u59 :: u60 :: u61 :: u62 :: u63 :: u64 :: u65 :: u66 :: u67 :: u68 :: u69 :: u70 :: u71 :: u72 :: u73 :: u74 :: u75 :: u76 :: u77 :: u78 :: u79 :: u80 :: u81 :: u82 :: u83 :: u84 :: u85 :: u86 :: u87 :: u88 :: u89 :: u90 :: u91 :: u92 :: u93 :: u94 :: u95 :: u96 :: u97 :: u98 :: u99 :: u100 :: u101 :: u102 :: u103 :: u104 :: u105 :: u106 :: u107 :: u108 :: u109 :: u110 :: u111 :: u112 :: u113 :: u114 :: u115 :: u116 :: u117 :: u118 :: u119 :: u120 :: u121 :: u122 :: u123 :: u124 :: u125 :: u126 :: u127 :: u128 :: u129 :: u130 :: u131 :: u132 :: u133 :: u134 :: u135 :: u136 :: u137 :: u138 :: u139 :: u140 :: u141 :: u142 :: u143 :: u144 :: u145 :: u146 :: u147 :: u148 :: u149 :: u150 :: u151 :: u152 :: u153 :: u154 :: u155 :: u156 :: u157 :: u158 :: u159 :: u160 :: u161 :: u162 :: u163 :: u164 :: u165 :: u166 :: u167 :: u168 :: u169 :: u170 :: u171 :: u172 :: u173 :: u174 :: u175 :: u176 :: u177 :: u178 :: u179 :: u180 :: u181 :: u182 :: u183 :: u184 :: u185 :: u186 :: u187 :: u188 :: u189 :: u190 :: u191 :: []), []⟩ wc := by
  conv => arg 2; whnf
  go_upto_region 12 with fail
  go_cut [132] (fun s132 wx => s132 = .bool false ∧ Hid (Below wc.heap.size wc wx))
  case first =>
    go_wp2_with fail
    refine (quo_any t wc).mono ?_
    rintro e w1 ⟨rfl, hB1⟩
    have HA1 := hid (hB1)
    clear hB1
    go_wp2_with fail
    have hl0 : At (w1.alloc (.cells #[.int .i64 1, .string ⟨t.toArray⟩, .string ⟨#[]⟩, .bool true, .slice none 0 0, .pointer none] 47)) w1.heap.size 47 #[.int .i64 1, .string ⟨t.toArray⟩, .string ⟨#[]⟩, .bool true, .slice none 0 0, .pointer none] := heap_alloc_new w1 _
    have hC0 : Below wc.heap.size wc (w1.alloc (.cells #[.int .i64 1, .string ⟨t.toArray⟩, .string ⟨#[]⟩, .bool true, .slice none 0 0, .pointer none] 47)) := HA1.out.alloc HA1.out.size _
    refine (trimc_quo [35] s t (w.heap.size + 1) w1.heap.size _ rfl (HV10.out.2.1.below hC0) (HV10.out.2.2.below hC0) hs60 ht20 hl0).mono ?_
    rintro e w10 ⟨rfl, hD0⟩
    have HE10 := hid (hC0.trans (hD0.mono hC0.size))
    clear hl0 hC0 hD0
    rw [trim_quo_hash [35] t s rfl]
    go_wp2_with fail
    refine (quo_any t w10).mono ?_
    rintro e w11 ⟨rfl, hB11⟩
    have HA11 := hid (HE10.out.trans (hB11.mono HE10.out.size))
    clear hB11
    go_wp2_with fail
    have hl1 : At (w11.alloc (.cells #[.int .i64 1, .string ⟨t.toArray⟩, .string ⟨#[]⟩, .bool true, .slice none 0 0, .pointer none] 47)) w11.heap.size 47 #[.int .i64 1, .string ⟨t.toArray⟩, .string ⟨#[]⟩, .bool true, .slice none 0 0, .pointer none] := heap_alloc_new w11 _
    have hC1 : Below wc.heap.size wc (w11.alloc (.cells #[.int .i64 1, .string ⟨t.toArray⟩, .string ⟨#[]⟩, .bool true, .slice none 0 0, .pointer none] 47)) := HA11.out.alloc HA11.out.size _
    refine (trimc_quo [35, 35] s t (w.heap.size + 1) w11.heap.size _ rfl (HV10.out.2.1.below hC1) (HV10.out.2.2.below hC1) hs60 ht20 hl1).mono ?_
    rintro e w20 ⟨rfl, hD1⟩
    have HE20 := hid (hC1.trans (hD1.mono hC1.size))
    clear hl1 hC1 hD1
    rw [trim_quo_hash [35, 35] t s rfl]
    go_wp2_with fail
    refine (quo_any t w20).mono ?_
    rintro e w21 ⟨rfl, hB21⟩
    have HA21 := hid (HE20.out.trans (hB21.mono HE20.out.size))
    clear hB21
    go_wp2_with fail
    have hl2 : At (w21.alloc (.cells #[.int .i64 1, .string ⟨t.toArray⟩, .string ⟨#[]⟩, .bool true, .slice none 0 0, .pointer none] 47)) w21.heap.size 47 #[.int .i64 1, .string ⟨t.toArray⟩, .string ⟨#[]⟩, .bool true, .slice none 0 0, .pointer none] := heap_alloc_new w21 _
    have hC2 : Below wc.heap.size wc (w21.alloc (.cells #[.int .i64 1, .string ⟨t.toArray⟩, .string ⟨#[]⟩, .bool true, .slice none 0 0, .pointer none] 47)) := HA21.out.alloc HA21.out.size _
    refine (trimc_quo [37] s t (w.heap.size + 1) w21.heap.size _ rfl (HV10.out.2.1.below hC2) (HV10.out.2.2.below hC2) hs60 ht20 hl2).mono ?_
    rintro e w30 ⟨rfl, hD2⟩
    have HE30 := hid (hC2.trans (hD2.mono hC2.size))
    clear hl2 hC2 hD2
    rw [trim_quo_end [37] t s rfl]
    go_wp2_with fail
    refine (quo_any t w30).mono ?_
    rintro e w31 ⟨rfl, hB31⟩
    have HA31 := hid (HE30.out.trans (hB31.mono HE30.out.size))
    clear hB31
    go_wp2_with fail
    have hl3 : At (w31.alloc (.cells #[.int .i64 1, .string ⟨t.toArray⟩, .string ⟨#[]⟩, .bool true, .slice none 0 0, .pointer none] 47)) w31.heap.size 47 #[.int .i64 1, .string ⟨t.toArray⟩, .string ⟨#[]⟩, .bool true, .slice none 0 0, .pointer none] := heap_alloc_new w31 _
    have hC3 : Below wc.heap.size wc (w31.alloc (.cells #[.int .i64 1, .string ⟨t.toArray⟩, .string ⟨#[]⟩, .bool true, .slice none 0 0, .pointer none] 47)) := HA31.out.alloc HA31.out.size _
    refine (trimc_quo [37, 37] s t (w.heap.size + 1) w31.heap.size _ rfl (HV10.out.2.1.below hC3) (HV10.out.2.2.below hC3) hs60 ht20 hl3).mono ?_
    rintro e w40 ⟨rfl, hD3⟩
    have HE40 := hid (hC3.trans (hD3.mono hC3.size))
    clear hl3 hC3 hD3
    rw [trim_quo_end [37, 37] t s rfl]
    go_wp2_with fail
    go_meet
    exact ⟨rfl, HE40⟩
  case rest =>
    obtain ⟨rfl, HB12⟩ := hcut
    have HV12 := hid (And.intro (HV10.out.1.trans (HB12.out.mono HV10.out.1.size)) (And.intro (HV10.out.2.1.below HB12.out) (HV10.out.2.2.below HB12.out)))
    rename_i K1 hK1 K2 hK2
    exact hK2 _ _ (wp_cond_false rfl (wp_skip (hK1 _ _ (trims_tail14 s t w wc hs60 ht20 HV12))))

set_option maxRecDepth 100000 in
set_option maxHeartbeats 4000000 in
theorem trims_tail10 {u2 u3 u9 u10 u11 u12 u13 u14 u15 u16 u17 u18 u19 u20 u21 u22 u23 u24 u25 u26 u27 u28 u29 u30 u31 u32 u33 u34 u35 u36 u37 u38 u39 u40 u41 u42 u43 u44 u45 u46 u47 u48 u49 u50 u51 u52 u53 u54 u55 u56 u57 u58 u59 u60 u61 u62 u63 u64 u65 u66 u67 u68 u69 u70 u71 u72 u73 u74 u75 u76 u77 u78 u79 u80 u81 u82 u83 u84 u85 u86 u87 u88 u89 u90 u91 u92 u93 u94 u95 u96 u97 u98 u99 u100 u101 u102 u103 u104 u105 u106 u107 u108 u109 u110 u111 u112 u113 u114 u115 u116 u117 u118 u119 u120 u121 u122 u123 u124 u125 u126 u127 u128 u129 u130 u131 u132 u133 u134 u135 u136 u137 u138 u139 u140 u141 u142 u143 u144 u145 u146 u147 u148 u149 u150 u151 u152 u153 u154 u155 u156 u157 u158 u159 u160 u161 u162 u163 u164 u165 u166 u167 u168 u169 u170 u171 u172 u173 u174 u175 u176 u177 u178 u179 u180 u181 u182 u183 u184 u185 u186 u187 u188 u189 u190 u191 : Value} (s t : Str) (w W : World) (hs60 : s.length ≤ 60) (ht20 : t.length ≤ 20) (HV : Hid (Below w.heap.size w W ∧ VBox W (w.heap.size + 1) s ∧ Tab W)) :
    Code.wp Tryd.prog (tail5 10) (bodyPost Tryd.prog Tryd.f5 fun e w' => e = .returned (.bool true) ∧ Below w.heap.size w w') ⟨List.toArray (.string ⟨s.toArray⟩ :: .string ⟨t.toArray⟩ :: u2 :: u3 :: .bool false :: .pointer (some ⟨w.heap.size + 1, 0, none⟩) :: .func (.func 15) #[] #[.pointer (some ⟨w.heap.size + 1, 0, none⟩)] :: .string ⟨(wantV s t).toArray⟩ :: .string ⟨(endV s t).toArray⟩ :: u9 :: u10 :: u11 :: u12 :: u13 :: u14 :: u15 :: u16 :: u17 :: u18 :: u19 :: u20 :: u21 :: u22 :: u23 :: u24 :: u25 :: u26 :: u27 :: u28 :: u29 :: u30 :: u31 :: u32 :: u33 :: u34 :: u35 :: u36 :: u37 :: u38 :: u39 :: u40 :: u41 :: u42 :: u43 :: u44 :: u45 :: u46 :: u47 :: u48 :: u49 :: u50 :: u51 :: u52 :: u53 :: u54 :: u55 :: u56 :: u57 :: u58 :: u59 :: u60 :: u61 :: u62 :: u63 :: u64 :: u65 :: u66 :: u67 :: u68 :: u69 :: u70 :: u71 :: u72 :: u73 :: u74 :: u75 :: u76 :: u77 :: u78 :: u79 :: u80 :: u81 :: u82 :: u83 :: u84 :: u85 :: u86 :: u87 :: u88 :: u89 :: u90 :: u91 :: u92 :: u93 :: u94 :: u95 :: u96 :: u97 :: u98 :: u99 :: u100 :: u101 :: u102 :: u103 :: u104 :: u105 :: u106 :: u107 :: u108 :: u109 :: u110 :: u111 :: u112 :: u113 :: u114 :: u115 :: u116 :: u117 :: u118 :: u119 :: u120 :: u121 :: u122 :: u123 :: u124 :: u125 :: u126 :: u127 :: u128 :: u129 :: u130 :: u131 :: u132 :: u133 :: u134 :: u135 :: u136 :: u137 :: u138 :: u139 :: u140 :: u141 :: u142 :: u143 :: u144 :: u145 :: u146 :: u147 :: u148 :: u149 :: u150 :: u151 :: u152 :: u153 :: u154 :: u155 :: u156 :: u157 :: u158 :: u159 :: u160 :: u161 :: u162 :: u163 :: u164 :: u165 :: u166 :: u167 :: u168 :: u169 :: u170 :: u171 :: u172 :: u173 :: u174 :: u175 :: u176 :: u177 :: u178 :: u179 :: u180 :: u181 :: u182 :: u183 :: u184 :: u185 :: u186 :: u187 :: u188 :: u189 :: u190 :: u191 :: []), []⟩ W := by
  conv => arg 2; whnf
  go_upto_region 10 with fail
  go_cut [98] (fun s98 wx => s98 = .bool false ∧ Hid (Below W.heap.size W wx))
  case first =>
    go_wp2_with fail
    refine (litp_any [42] W).mono ?_
    rintro e w1 ⟨rfl, hB1⟩
    have HA1 := hid (hB1)
    clear hB1
    go_wp2_with fail
    have hl0 : At (w1.alloc (.cells #[.int .i64 0, .string ⟨#[42]⟩, .string ⟨#[]⟩, .bool false, .slice none 0 0, .pointer none] 47)) w1.heap.size 47 #[.int .i64 0, .string ⟨#[42]⟩, .string ⟨#[]⟩, .bool false, .slice none 0 0, .pointer none] := heap_alloc_new w1 _
    have hC0 : Below W.heap.size W (w1.alloc (.cells #[.int .i64 0, .string ⟨#[42]⟩, .string ⟨#[]⟩, .bool false, .slice none 0 0, .pointer none] 47)) := HA1.out.alloc HA1.out.size _
    refine (trimc_star [35] s (w.heap.size + 1) w1.heap.size _ rfl (HV.out.2.1.below hC0) (HV.out.2.2.below hC0) hs60 hl0).mono ?_
    rintro e w10 ⟨rfl, hD0⟩
    have HE10 := hid (hC0.trans (hD0.mono hC0.size))
    clear hl0 hC0 hD0
    rw [trim_star1 [35] true s rfl]
    go_wp2_with fail
    refine (litp_any [42] w10).mono ?_
    rintro e w11 ⟨rfl, hB11⟩
    have HA11 := hid (HE10.out.trans (hB11.mono HE10.out.size))
    clear hB11
    go_wp2_with fail
    have hl1 : At (w11.alloc (.cells #[.int .i64 0, .string ⟨#[42]⟩, .string ⟨#[]⟩, .bool false, .slice none 0 0, .pointer none] 47)) w11.heap.size 47 #[.int .i64 0, .string ⟨#[42]⟩, .string ⟨#[]⟩, .bool false, .slice none 0 0, .pointer none] := heap_alloc_new w11 _
    have hC1 : Below W.heap.size W (w11.alloc (.cells #[.int .i64 0, .string ⟨#[42]⟩, .string ⟨#[]⟩, .bool false, .slice none 0 0, .pointer none] 47)) := HA11.out.alloc HA11.out.size _
    refine (trimc_star [35, 35] s (w.heap.size + 1) w11.heap.size _ rfl (HV.out.2.1.below hC1) (HV.out.2.2.below hC1) hs60 hl1).mono ?_
    rintro e w20 ⟨rfl, hD1⟩
    have HE20 := hid (hC1.trans (hD1.mono hC1.size))
    clear hl1 hC1 hD1
    rw [trim_star2 [35, 35] true s rfl]
    go_wp2_with fail
    refine (litp_any [42] w20).mono ?_
    rintro e w21 ⟨rfl, hB21⟩
    have HA21 := hid (HE20.out.trans (hB21.mono HE20.out.size))
    clear hB21
    go_wp2_with fail
    have hl2 : At (w21.alloc (.cells #[.int .i64 0, .string ⟨#[42]⟩, .string ⟨#[]⟩, .bool false, .slice none 0 0, .pointer none] 47)) w21.heap.size 47 #[.int .i64 0, .string ⟨#[42]⟩, .string ⟨#[]⟩, .bool false, .slice none 0 0, .pointer none] := heap_alloc_new w21 _
    have hC2 : Below W.heap.size W (w21.alloc (.cells #[.int .i64 0, .string ⟨#[42]⟩, .string ⟨#[]⟩, .bool false, .slice none 0 0, .pointer none] 47)) := HA21.out.alloc HA21.out.size _
    refine (trimc_star [37] s (w.heap.size + 1) w21.heap.size _ rfl (HV.out.2.1.below hC2) (HV.out.2.2.below hC2) hs60 hl2).mono ?_
    rintro e w30 ⟨rfl, hD2⟩
    have HE30 := hid (hC2.trans (hD2.mono hC2.size))
    clear hl2 hC2 hD2
    rw [trim_star1 [37] true s rfl]
    go_wp2_with fail
    refine (litp_any [42] w30).mono ?_
    rintro e w31 ⟨rfl, hB31⟩
    have HA31 := hid (HE30.out.trans (hB31.mono HE30.out.size))
    clear hB31
    go_wp2_with fail
    have hl3 : At (w31.alloc (.cells #[.int .i64 0, .string ⟨#[42]⟩, .string ⟨#[]⟩, .bool false, .slice none 0 0, .pointer none] 47)) w31.heap.size 47 #[.int .i64 0, .string ⟨#[42]⟩, .string ⟨#[]⟩, .bool false, .slice none 0 0, .pointer none] := heap_alloc_new w31 _
    have hC3 : Below W.heap.size W (w31.alloc (.cells #[.int .i64 0, .string ⟨#[42]⟩, .string ⟨#[]⟩, .bool false, .slice none 0 0, .pointer none] 47)) := HA31.out.alloc HA31.out.size _
    refine (trimc_star [37, 37] s (w.heap.size + 1) w31.heap.size _ rfl (HV.out.2.1.below hC3) (HV.out.2.2.below hC3) hs60 hl3).mono ?_
    rintro e w40 ⟨rfl, hD3⟩
    have HE40 := hid (hC3.trans (hD3.mono hC3.size))
    clear hl3 hC3 hD3
    rw [trim_star2 [37, 37] true s rfl]
    go_wp2_with fail
    go_meet
    exact ⟨rfl, HE40⟩
  case rest =>
    obtain ⟨rfl, HB10⟩ := hcut
    have HV10 := hid (And.intro (HV.out.1.trans (HB10.out.mono HV.out.1.size)) (And.intro (HV.out.2.1.below HB10.out) (HV.out.2.2.below HB10.out)))
    rename_i K1 hK1 K2 hK2
    exact hK2 _ _ (wp_cond_false rfl (wp_skip (hK1 _ _ (trims_tail12 s t w wc hs60 ht20 HV10))))
end Go.Proofs.YtklihdlfbhgpeaaDoor
