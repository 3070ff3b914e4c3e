/-
  The walk of ExpandTrims.
-/
import Derived.Test.YtklihdlfbhgpeaaDoorE23
import Derived.BigQuiet
import Derived.Deep.CutBlock
namespace Go.Proofs.YtklihdlfbhgpeaaDoor
open Go.RowKit
set_option linter.unusedVariables false

theorem below_drwN (w : World) (n : Nat) : Below w.heap.size w (w.drewN n) := ⟨rfl, rfl, rfl, Nat.le_refl _, fun _ _ => rfl⟩
/-- The first and the last place, of those below i. -/
def Found (s t : Str) (i : Nat) (f l : Int) : Prop := (f = -1 ∧ l = -1 ∧ ∀ j, j < i → ¬ atP s t j) ∨
  ∃ a b : Nat, f = a ∧ l = b ∧ a < i ∧ b < i ∧ atP s t a ∧ atP s t b ∧ (∀ j, j < a → ¬ atP s t j) ∧ ∀ j, b < j → j < i → ¬ atP s t j
theorem Found.hit {s t : Str} {i : Nat} {f l : Int} (h : Found s t i f l) (ha : atP s t i) : Found s t (i + 1) (if f < 0 then (i : Int) else f) i := by
  rcases h with ⟨rfl, rfl, h⟩ | ⟨a, b, rfl, rfl, h1, h2, h3, h4, h5, h6⟩
  · exact .inr ⟨i, i, by simp, rfl, by omega, by omega, ha, ha, h, fun j h1 h2 => by omega⟩
  · exact .inr ⟨a, i, by rw [if_neg (by omega)], rfl, by omega, by omega, h3, ha, h5, fun j h1 h2 => by omega⟩
theorem Found.miss {s t : Str} {i : Nat} {f l : Int} (h : Found s t i f l) (ha : ¬ atP s t i) : Found s t (i + 1) f l := by
  rcases h with ⟨rfl, rfl, h⟩ | ⟨a, b, rfl, rfl, h1, h2, h3, h4, h5, h6⟩
  · refine .inl ⟨rfl, rfl, fun j hj => ?_⟩
    by_cases e : j = i
    · subst e; exact ha
    · exact h j (by omega)
  · refine .inr ⟨a, b, rfl, rfl, by omega, by omega, h3, h4, h5, fun j h7 h8 => ?_⟩
    by_cases e : j = i
    · subst e; exact ha
    · exact h6 j h7 (by omega)
/-- What stands from a region on. -/
def headR : Code → Option Nat
  | .region k _ _ => some k
  | .seq a _ => headR a
  | _ => none
def fromR (n : Nat) : Code → Option Code
  | .seq a b => if headR a = some n then some (.seq a b) else match fromR n a with
    | some c => some c
    | none => fromR n b
  | .block _ c => fromR n c
  | .scope c => fromR n c
  | _ => none
noncomputable def tail5 (n : Nat) : Code := (Tryd.f5.body.bind (fromR n)).getD .skip
set_option maxRecDepth 100000 in
set_option maxHeartbeats 4000000 in
theorem trims_tail25 {u2 u3 u9 u10 u11 u14 u15 u16 u17 u18 u19 u20 u21 u22 u23 u24 u25 u26 u27 u28 u29 u30 u31 u32 u33 u34 u35 u36 u37 u38 u39 u40 u41 u42 u43 u44 u45 u46 u47 u48 u49 u50 u51 u52 u53 u54 u55 u56 u57 u58 u59 u60 u61 u62 u63 u64 u65 u66 u67 u68 u69 u70 u71 u72 u73 u74 u75 u76 u77 u78 u79 u80 u81 u82 u83 u84 u85 u86 u87 u88 u89 u90 u91 u92 u93 u94 u95 u96 u97 u98 u99 u100 u101 u102 u103 u104 u105 u106 u107 u108 u109 u110 u111 u112 u113 u114 u115 u116 u117 u118 u119 u120 u121 u122 u123 u124 u125 u126 u127 u128 u129 u130 u131 u132 u133 u134 u135 u136 u137 u138 u139 u140 u141 u142 u143 u144 u145 u146 u147 u148 u149 u150 u151 u152 u153 u154 u155 u156 u157 u158 u159 u160 u161 u162 u163 u164 u165 u166 u167 u168 u169 u170 u171 u172 u173 u174 u175 u176 u177 u178 u179 u180 u181 u182 u183 u184 u185 u186 u187 u188 u189 u190 u191 : Value} (s t : Str) (w wc : World) (hs60 : s.length ≤ 60) (ht20 : t.length ≤ 20) (HV13 : Hid (Below w.heap.size w wc ∧ VBox wc (w.heap.size + 1) s ∧ Tab wc)) :
    Code.wp Tryd.prog (tail5 25) (bodyPost Tryd.prog Tryd.f5 fun e w' => e = .returned (.bool true) ∧ Below w.heap.size w w') ⟨#[.string ⟨s.toArray⟩, .string ⟨t.toArray⟩, u2, u3, .bool false, .pointer (some ⟨w.heap.size + 1, 0, none⟩), .func (.func 15) #[] #[.pointer (some ⟨w.heap.size + 1, 0, none⟩)], .string ⟨(wantV s t).toArray⟩, .string ⟨(endV s t).toArray⟩, u9, u10, u11, .string ⟨(trimV [35] [starR true, quoR t] s).toArray⟩, .string ⟨(trimV [35, 35] [starR true, quoR t] s).toArray⟩, u14, u15, u16, u17, u18, u19, u20, u21, u22, u23, u24, u25, u26, u27, u28, u29, u30, u31, u32, u33, u34, u35, u36, u37, u38, u39, u40, u41, u42, u43, u44, u45, u46, u47, u48, u49, u50, u51, u52, u53, u54, u55, u56, u57, u58, u59, u60, u61, u62, u63, u64, u65, u66, u67, u68, u69, u70, u71, u72, u73, u74, u75, u76, u77, u78, u79, u80, u81, u82, u83, u84, u85, u86, u87, u88, u89, u90, u91, u92, u93, u94, u95, u96, u97, u98, u99, u100, u101, u102, u103, u104, u105, u106, u107, u108, u109, u110, u111, u112, u113, u114, u115, u116, u117, u118, u119, u120, u121, u122, u123, u124, u125, u126, u127, u128, u129, u130, u131, u132, u133, u134, u135, u136, u137, u138, u139, u140, u141, u142, u143, u144, u145, u146, u147, u148, u149, u150, u151, u152, u153, u154, u155, u156, u157, u158, u159, u160, u161, u162, u163, u164, u165, u166, u167, u168, u169, u170, u171, u172, u173, u174, u175, u176, u177, u178, u179, u180, u181, u182, u183, u184, u185, u186, u187, u188, u189, u190, u191], []⟩ wc := by
  conv => arg 2; whnf
  go_wp2_with fail
  refine (litp_any [42] wc).mono ?_
  rintro e w1 ⟨rfl, hB0⟩
  have HA0 := hid (hB0)
  clear hB0
  go_wp2_with fail
  refine (quo_any t w1).mono ?_
  rintro e w2 ⟨rfl, hQ0⟩
  have HQ0 := hid (HA0.out.trans (hQ0.mono HA0.out.size))
  clear hQ0
  go_wp2_with fail
  have hl0 : At (w2.alloc (.cells #[.int .i64 0, .string ⟨#[42]⟩, .string ⟨#[]⟩, .bool false, .slice none 0 0, .pointer none, .int .i64 1, .string ⟨t.toArray⟩, .string ⟨#[]⟩, .bool true, .slice none 0 0, .pointer none] 47)) w2.heap.size 47 #[.int .i64 0, .string ⟨#[42]⟩, .string ⟨#[]⟩, .bool false, .slice none 0 0, .pointer none, .int .i64 1, .string ⟨t.toArray⟩, .string ⟨#[]⟩, .bool true, .slice none 0 0, .pointer none] := heap_alloc_new w2 _
  have hC0 : Below wc.heap.size wc (w2.alloc (.cells #[.int .i64 0, .string ⟨#[42]⟩, .string ⟨#[]⟩, .bool false, .slice none 0 0, .pointer none, .int .i64 1, .string ⟨t.toArray⟩, .string ⟨#[]⟩, .bool true, .slice none 0 0, .pointer none] 47)) := HQ0.out.alloc HQ0.out.size _
  refine (trimc_both [35] s t (w.heap.size + 1) w2.heap.size _ rfl (HV13.out.2.1.below hC0) (HV13.out.2.2.below hC0) hs60 ht20 hl0).mono ?_
  rintro e w3 ⟨rfl, hD0⟩
  have HE0 := hid (hC0.trans (hD0.mono hC0.size))
  clear hl0 hC0 hD0
  go_wp2_with fail
  refine (litp_any [42] w3).mono ?_
  rintro e w4 ⟨rfl, hB1⟩
  have HA1 := hid (HE0.out.trans (hB1.mono HE0.out.size))
  clear hB1
  go_wp2_with fail
  refine (quo_any t w4).mono ?_
  rintro e w5 ⟨rfl, hQ1⟩
  have HQ1 := hid (HA1.out.trans (hQ1.mono HA1.out.size))
  clear hQ1
  go_wp2_with fail
  have hl1 : At (w5.alloc (.cells #[.int .i64 0, .string ⟨#[42]⟩, .string ⟨#[]⟩, .bool false, .slice none 0 0, .pointer none, .int .i64 1, .string ⟨t.toArray⟩, .string ⟨#[]⟩, .bool true, .slice none 0 0, .pointer none] 47)) w5.heap.size 47 #[.int .i64 0, .string ⟨#[42]⟩, .string ⟨#[]⟩, .bool false, .slice none 0 0, .pointer none, .int .i64 1, .string ⟨t.toArray⟩, .string ⟨#[]⟩, .bool true, .slice none 0 0, .pointer none] := heap_alloc_new w5 _
  have hC1 : Below wc.heap.size wc (w5.alloc (.cells #[.int .i64 0, .string ⟨#[42]⟩, .string ⟨#[]⟩, .bool false, .slice none 0 0, .pointer none, .int .i64 1, .string ⟨t.toArray⟩, .string ⟨#[]⟩, .bool true, .slice none 0 0, .pointer none] 47)) := HQ1.out.alloc HQ1.out.size _
  refine (trimc_both [35, 35] s t (w.heap.size + 1) w5.heap.size _ rfl (HV13.out.2.1.below hC1) (HV13.out.2.2.below hC1) hs60 ht20 hl1).mono ?_
  rintro e w6 ⟨rfl, hD1⟩
  have HE1 := hid (hC1.trans (hD1.mono hC1.size))
  clear hl1 hC1 hD1
  go_wp2_with fail
  refine (works_any w6 (HV13.out.2.2.below HE1.out)).mono ?_
  rintro e w7 ⟨rfl, hW7⟩
  have HE7 := hid (HE1.out.trans (hW7.mono HE1.out.size))
  clear hW7
  go_wp2_with fail
  go_ret
  exact ⟨rfl, HV13.out.1.trans (HE7.out.mono HV13.out.1.size)⟩

set_option maxRecDepth 100000 in
set_option maxHeartbeats 4000000 in
theorem trims_tail14 {u2 u3 u9 u10 u11 u12 u13 u14 u15 u16 u17 u18 u19 u20 u21 u22 u23 u24 u25 u26 u27 u28 u29 u30 u31 u32 u33 u34 u35 u36 u37 u38 u39 u40 u41 u42 u43 u44 u45 u46 u47 u48 u49 u50 u51 u52 u53 u54 u55 u56 u57 u58 u59 u60 u61 u62 u63 u64 u65 u66 u67 u68 u69 u70 u71 u72 u73 u74 u75 u76 u77 u78 u79 u80 u81 u82 u83 u84 u85 u86 u87 u88 u89 u90 u91 u92 u93 u94 u95 u96 u97 u98 u99 u100 u101 u102 u103 u104 u105 u106 u107 u108 u109 u110 u111 u112 u113 u114 u115 u116 u117 u118 u119 u120 u121 u122 u123 u124 u125 u126 u127 u128 u129 u130 u131 u132 u133 u134 u135 u136 u137 u138 u139 u140 u141 u142 u143 u144 u145 u146 u147 u148 u149 u150 u151 u152 u153 u154 u155 u156 u157 u158 u159 u160 u161 u162 u163 u164 u165 u166 u167 u168 u169 u170 u171 u172 u173 u174 u175 u176 u177 u178 u179 u180 u181 u182 u183 u184 u185 u186 u187 u188 u189 u190 u191 : Value} (s t : Str) (w wc : World) (hs60 : s.length ≤ 60) (ht20 : t.length ≤ 20) (HV12 : Hid (Below w.heap.size w wc ∧ VBox wc (w.heap.size + 1) s ∧ Tab wc)) :
    Code.wp Tryd.prog (tail5 14) (bodyPost Tryd.prog Tryd.f5 fun e w' => e = .returned (.bool true) ∧ Below w.heap.size w w') ⟨#[.string ⟨s.toArray⟩, .string ⟨t.toArray⟩, u2, u3, .bool false, .pointer (some ⟨w.heap.size + 1, 0, none⟩), .func (.func 15) #[] #[.pointer (some ⟨w.heap.size + 1, 0, none⟩)], .string ⟨(wantV s t).toArray⟩, .string ⟨(endV s t).toArray⟩, u9, u10, u11, u12, u13, u14, u15, u16, u17, u18, u19, u20, u21, u22, u23, u24, u25, u26, u27, u28, u29, u30, u31, u32, u33, u34, u35, u36, u37, u38, u39, u40, u41, u42, u43, u44, u45, u46, u47, u48, u49, u50, u51, u52, u53, u54, u55, u56, u57, u58, u59, u60, u61, u62, u63, u64, u65, u66, u67, u68, u69, u70, u71, u72, u73, u74, u75, u76, u77, u78, u79, u80, u81, u82, u83, u84, u85, u86, u87, u88, u89, u90, u91, u92, u93, u94, u95, u96, u97, u98, u99, u100, u101, u102, u103, u104, u105, u106, u107, u108, u109, u110, u111, u112, u113, u114, u115, u116, u117, u118, u119, u120, u121, u122, u123, u124, u125, u126, u127, u128, u129, u130, u131, u132, u133, u134, u135, u136, u137, u138, u139, u140, u141, u142, u143, u144, u145, u146, u147, u148, u149, u150, u151, u152, u153, u154, u155, u156, u157, u158, u159, u160, u161, u162, u163, u164, u165, u166, u167, u168, u169, u170, u171, u172, u173, u174, u175, u176, u177, u178, u179, u180, u181, u182, u183, u184, u185, u186, u187, u188, u189, u190, u191], []⟩ wc := by
  have hsI : (s.length : Int) ≤ 60 := by omega
  have htI : (t.length : Int) ≤ 20 := by omega
  conv => arg 2; whnf
  go_wp2_with fail
  go_loopg [9, 10, 11] (s.length + 1) (fun m v9 v10 v11 wr => ∃ i : Nat, m + i = s.length + 1 ∧ v11 = .int .i64 i ∧ wr = wc ∧ ∃ f l : Int, v9 = .int .i64 f ∧ v10 = .int .i64 l ∧ Hid (Found s t i f l))
  case atStart => exact ⟨0, rfl, rfl, rfl, -1, -1, rfl, rfl, hid (.inl ⟨rfl, rfl, fun j hj => by omega⟩)⟩
  case round =>
    obtain ⟨i, hm, rfl, rfl, f, l, rfl, rfl, HF⟩ := hrel
    have HM := hid hm
    clear hm
    by_cases hi : i + t.length ≤ s.length
    · have hiI : (i : Int) + (t.length : Int) ≤ (s.length : Int) := by omega
      have hwi : IntKind.i64.wrap ((i : Int) + (t.length : Int)) = ((i + t.length : Nat) : Int) := by rw [IntWalk.i64_in _ (by omega)]; omega
      have hi2 : ((i + t.length : Nat) : Int) ≤ (s.length : Int) := by omega
      have hi3 : (i : Int) ≤ ((i + t.length : Nat) : Int) := by omega
      go_upto_if 150 with fail
      by_cases ha : (s.drop i).take t.length = t
      · have h2b : ((s.drop i).take t.length == t) = true := by simpa using ha
        have HA := hid (And.intro hi ha)
        clear ha
        rw [h2b]
        obtain ⟨f', hf'⟩ : ∃ x, x = (if f < 0 then (i : Int) else f) := ⟨_, rfl⟩
        have HF' := hid (hf' ▸ HF.out.hit HA.out)
        by_cases hf : f < 0
        · rw [if_pos hf] at hf'
          subst hf'
          go_wp2_with fail
          go_roundg (gk - 1)
          case measure =>
            go_light
            have := HM.out
            omega
          case rel =>
            go_light
            exact ⟨i + 1, by have := HM.out; omega, rfl, rfl, i, i, rfl, rfl, HF'⟩
        · rw [if_neg hf] at hf'
          subst hf'
          go_wp2_with fail
          go_roundg (gk - 1)
          case measure =>
            go_light
            have := HM.out
            omega
          case rel =>
            go_light
            exact ⟨i + 1, by have := HM.out; omega, rfl, rfl, f', i, rfl, rfl, HF'⟩
      · have h2b : ((s.drop i).take t.length == t) = false := by simpa using ha
        have HA := hid (HF.out.miss fun h => ha h.2)
        clear ha
        rw [h2b]
        go_wp2_with fail
        go_roundg (gk - 1)
        case measure =>
          go_light
          have := HM.out
          omega
        case rel =>
          go_light
          exact ⟨i + 1, by have := HM.out; omega, rfl, rfl, f, l, rfl, rfl, HA⟩
    · have hiI : ¬ (i : Int) + (t.length : Int) ≤ (s.length : Int) := by omega
      have hwi : IntKind.i64.wrap ((i : Int) + (t.length : Int)) = ((i + t.length : Nat) : Int) := by
        rw [IntWalk.i64_in _ (by have := HM.out; omega)]
        omega
      have hi2 : ¬ ((i + t.length : Nat) : Int) ≤ (s.length : Int) := by omega
      have HI := hid hi
      go_upto_if 158 with fail
      clear hiI hwi hi2 hi
      go_cut [12, 13] (fun s12 s13 wx => s12 = .string ⟨(trimV [35] [starR true, quoR t] s).toArray⟩ ∧ s13 = .string ⟨(trimV [35, 35] [starR true, quoR t] s).toArray⟩ ∧ Hid (Below wr.heap.size wr wx))
      case first =>
        rcases HF.out with ⟨rfl, rfl, h⟩ | ⟨a, b, rfl, rfl, h1, h2, h3, h4, h5, h6⟩
        · have h0 : ∀ j, ¬ atP s t j := by
            intro j hj
            by_cases hji : j < i
            · exact h j hji hj
            · have := hj.1
              have := HI.out
              omega
          have HH := hid h0
          clear h h0
          go_wp2_with fail
          go_meet
          exact ⟨by rw [trim_nowhere [35] true t s rfl HH.out], by rw [trim_nowhere [35, 35] true t s rfl HH.out], hid (Below.refl _ _)⟩
        · have h7 : ∀ j, b < j → ¬ atP s t j := by
            intro j hbj hj
            by_cases hji : j < i
            · exact h6 j hbj hji hj
            · have := hj.1
              have := HI.out
              omega
          have ha1 := h3.1
          have hb1 := h4.1
          have HH := hid (And.intro h3 (And.intro h4 (And.intro h5 h7)))
          clear h1 h2 h3 h4 h5 h6 h7
          have ha2 : IntKind.i64.wrap ((a : Int) + (t.length : Int)) = ((a + t.length : Nat) : Int) := by
            rw [IntWalk.i64_in _ (by omega)]
            omega
          have hb2 : IntKind.i64.wrap ((b : Int) + (t.length : Int)) = ((b + t.length : Nat) : Int) := by
            rw [IntWalk.i64_in _ (by omega)]
            omega
          have ha3 : ((a + t.length : Nat) : Int) ≤ (s.length : Int) := by omega
          have hb3 : ((b + t.length : Nat) : Int) ≤ (s.length : Int) := by omega
          go_wp2_with fail
          go_quiet (fail)
          go_wp2_with fail
          go_meet
          exact ⟨by rw [trim_first [35] true t s rfl rfl a HH.out.1 HH.out.2.2.1], by rw [trim_last [35, 35] true t s rfl rfl b HH.out.2.1 HH.out.2.2.2], hid (below_drwN _ _)⟩
      case rest =>
        obtain ⟨rfl, rfl, HB13⟩ := hcut
        have HV13 := hid (And.intro (HV12.out.1.trans (HB13.out.mono HV12.out.1.size)) (And.intro (HV12.out.2.1.below HB13.out) (HV12.out.2.2.below HB13.out)))
        rename_i K3 hK3
        exact hK3 _ _ (trims_tail25 s t w wc hs60 ht20 HV13)
end Go.Proofs.YtklihdlfbhgpeaaDoor
