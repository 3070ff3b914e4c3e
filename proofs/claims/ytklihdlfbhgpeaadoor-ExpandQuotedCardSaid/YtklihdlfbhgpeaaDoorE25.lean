/-
  The walk of ExpandQuoted: any two lists of texts. No conditions beside the table of powers of ten.
-/
import Derived.Test.YtklihdlfbhgpeaaDoorE25c
namespace Go.Proofs.YtklihdlfbhgpeaaDoor
open Go.RowKit
set_option linter.unusedVariables false

set_option maxRecDepth 100000 in
set_option maxHeartbeats 4000000 in
theorem expandQuoted_list (vs bs : List Str) (A1 A2 : Option Addr) (c1 c2 : Nat) (w : World) (hT : Tab w) (h1 : Rc w 1 A1 vs.length (txv vs)) (h2 : Rc w 1 A2 bs.length (txv bs)) :
    Calls Tryd.prog 4 #[.slice A1 vs.length c1, .slice A2 bs.length c2] w fun e w' => e = .returned (.bool true) ∧ Below w.heap.size w w' := by
  obtain ⟨i47, hi, hz0, hz1, hz2⟩ := info_parts infoP
  obtain ⟨i44, hj, hy0, hy1, hy2⟩ := info_parts infoV
  obtain ⟨K, hK⟩ : ∃ K, K = min vs.length 8 := ⟨_, rfl⟩
  have HT := hid hT
  have HR := hid (And.intro h1 h2)
  have HK := hid hK
  clear hT h1 h2 hK
  go_enter Tryd.func4, Tryd.ntmps4
  go_wp2_with fail
  obtain ⟨W, hW⟩ : ∃ W, W = w.alloc (.cells #[.slice none 0 0, .slice none 0 0, .int .i64 0] 26) := ⟨_, rfl⟩
  have hb0 : Below w.heap.size w W := by rw [hW]; exact (Below.refl _ _).alloc (Nat.le_refl _) _
  have hq0 : QI w W [] [] (.slice none 0 0) (.slice none 0 0) [] := ⟨hb0, by rw [hW]; exact heap_alloc_new w _, World.ownsRow_nil _ _ _ _, WAt.nil _ _⟩
  rw [← hW]
  have HQ0 := hid hq0
  clear hW hb0 hq0
  go_loopg [5, 7, 8] K (fun m v5 v7 v8 wr => ∃ k : Nat, m + k = K ∧ v8 = .int .i64 k ∧ v7 = .string ⟨(sQ vs bs k).toArray⟩ ∧ ∃ vL l, Hid (QI w wr (lQ vs k) (wQ bs k) vL v5 l) ∧ Hid (∀ i, i < k → ¬ badQ vs i))
  case atStart => exact ⟨0, rfl, rfl, rfl, _, _, HQ0, hid (fun i hi => by omega)⟩
  case round =>
    obtain ⟨k, hm, rfl, rfl, vL, l, HQ, HB⟩ := hrel
    have HM := hid hm
    clear hm
    by_cases hk : k < K
    · have hk8 : k < 8 := by have := HK.out; omega
      have hkv : k < vs.length := by have := HK.out; omega
      have hk8I : (k : Int) < 8 := by omega
      have hkvI : (k : Int) < (vs.length : Int) := by omega
      obtain ⟨b1, off1, hA1, hl1, hc1⟩ := HR.out.1.2 (by omega)
      subst hA1
      have x1 := cell_below (hc1 k _ (txv_get vs k hkv)) HQ.out.bel
      obtain ⟨u, hu⟩ : ∃ u, u = vs.getD k [] := ⟨_, rfl⟩
      rw [← hu] at x1
      obtain ⟨m1, hm1⟩ : ∃ m, m = min u.length 80 := ⟨_, rfl⟩
      have f1 : min (u.length : Int) 80 = (m1 : Int) := by omega
      have f2 : (m1 : Int) ≤ (u.length : Int) := by omega
      have hU : u.take m1 = uQ vs k := by rw [take_min u m1 80 hm1, hu]; rfl
      have HU := hid hU
      clear hl1 hc1 hm1 hu hU
      obtain ⟨ch, hch⟩ : ∃ ch, ch = UInt8.ofNat (97 + k) := ⟨_, rfl⟩
      have hb8 : (ch.toNat : Int) = 97 + (k : Int) := by
        rw [hch, UInt8.toNat_ofNat']
        omega
      have hNM : nmQ k = [118, ch] := by rw [hch]; rfl
      have HNM := hid hNM
      have hAe : At (wr.alloc (.cells #[.int .u8 118, .int .u8 (97 + (k : Int))] 5)) wr.heap.size 5 #[.int .u8 118, .int .u8 (97 + (k : Int))] := heap_alloc_new wr _
      have hRd : Rd (wr.alloc (.cells #[.int .u8 118, .int .u8 (97 + (k : Int))] 5)) (wr.heap.size + 1) (some ⟨wr.heap.size, 0, none⟩) 2 (bv [118, ch]) := Rd.of_at hAe (by omega) (by rw [bv_cons, bv_cons, bv_nil, hb8]; rfl) rfl
      have HRD := hid hRd
      clear hRd hAe hch hb8 hNM
      go_upto_region 8 with (refine wpList_string_of rfl (.tmp 30) 42 9 5 rfl Tryd.underlying42 Tryd.underlying5 Tryd.underlying9 (wr.heap.size + 1) _ 2 2 rfl [118, ch] HRD.out ?_)
      clear HRD
      obtain ⟨W7, hW7⟩ : ∃ W7, W7 = wr.alloc (.cells #[.int .u8 118, .int .u8 (97 + (k : Int))] 5) := ⟨_, rfl⟩
      have hQ7 := HQ.out.below (w' := W7) (by rw [hW7]; exact (Below.refl _ _).alloc (Nat.le_refl _) _)
      have x2 : W7.cell? ⟨b1, off1 + k, none⟩ = some (.string ⟨u.toArray⟩) := cell_below x1 (by rw [hW7]; exact (Below.refl _ _).alloc (Nat.le_refl _) _)
      rw [← hW7]
      have hll : (lQ vs k).length = k := lQ_length vs k
      have HQ7 := hid hQ7
      clear hW7 hQ7 x1 HQ
      go_cut [48] (fun s48 wx => ∃ A' c', Hid (QI w wx (lQ vs (k + 1)) (wQ bs k) (.slice A' (k + 1) c') u5 l))
      case first =>
        refine q_reg8 vs k m1 b1 off1 c1 ch u w W7 (lQ vs k) (wQ bs k) vL u5 l hk8 hkvI x2 f1 f2 HQ7 hll _ _ _ _ _ ?_
        intro s32 s33 s34 s35 s36 s37 s38 s39 s40 s41 s42 s43 s44 s45 s46 s47 s48 s49 A' c' w3 h
        go_wp2_with fail
        go_meet
        exact ⟨A', c', by
          have h2 := h.out
          rw [HU.out, ← HNM.out] at h2
          exact hid h2⟩
      case rest =>
        obtain ⟨A', c', HQ8⟩ := hcut
        go_upto_if 53 with fail
        go_cut [5, 7] (fun s5 s7 wx => s7 = .string ⟨(sQ vs bs k ++ bT bs k).toArray⟩ ∧ ∃ l', Hid (QI w wx (lQ vs (k + 1)) (wQ bs k ++ tQ bs k) (.slice A' (k + 1) c') s5 l'))
        case first =>
          by_cases hb : k < bs.length
          · obtain ⟨b2, off2, hA2, hl2, hc2⟩ := HR.out.2.2 (by omega)
            subst hA2
            refine q_if53 vs bs k b2 off2 c2 w wc (lQ vs (k + 1)) (.slice A' (k + 1) c') u5 l hk8 hb hl2 hc2 HQ8 _ _ _ _ _ ?_
            intro s17 s18 s19 s20 s21 s22 s23 s24 s25 s26 s27 s28 s29 s30 s31 s32 s33 s34 s35 s36 s37 s38 s39 s40 s41 s42 s43 s44 s45 s46 s47 s48 s49 s50 s51 s52 s53 s54 s55 s56 s57 s58 s59 s60 s61 s62 s63 s64 s65 s66 s67 s68 s69 s70 s71 s72 s73 s74 s75 s76 s77 s78 s79 s80 s81 s82 s83 s84 s85 s86 s87 s88 s89 s90 s91 s92 s93 s94 s95 s96 s97 s98 s99 s100 s101 s102 s103 s104 s105 s106 s107 s108 s109 s110 s111 s112 s113 s114 s115 s116 s117 s118 s119 s120 s121 s122 s123 s124 s125 s126 s127 v' l' w3 h
            go_wp2_with fail
            go_meet
            exact ⟨rfl, l', h⟩
          · have hbI : ¬ (k : Int) < (bs.length : Int) := by omega
            have HB2 := hid hb
            go_wp2_with fail
            go_meet
            exact ⟨by rw [bT, if_neg HB2.out, List.append_nil], l, by rw [tQ, if_neg HB2.out, List.append_nil]; exact HQ8⟩
        case rest =>
          obtain ⟨rfl, l', HQ11⟩ := hcut
          have hll2 : (wQ bs k ++ tQ bs k).length ≤ 17 := by
            have := wQ_len bs k hk8
            have : (tQ bs k).length ≤ 1 := by unfold tQ; split <;> simp
            rw [List.length_append]
            omega
          have hs11 := HQ11.out.bel.size
          clear HQ8
          go_upto_region 12 with fail
          go_cut [5] (fun s5 wx => ∃ l', Hid (QI w wx (lQ vs (k + 1)) (wQ bs (k + 1)) (.slice A' (k + 1) c') s5 l'))
          case first =>
            have hr4 : k % 4 = 0 ∨ k % 4 = 1 ∨ k % 4 = 2 ∨ k % 4 = 3 := by omega
            rcases hr4 with hr | hr | hr | hr
            · have hpq : parV [118, ch] [] true [litV neverS] = pQ k := by
                unfold pQ opQ
                rw [HNM.out]
                simp [hr]
              refine q_reg12_0 k ch w wc (lQ vs (k + 1)) (wQ bs k ++ tQ bs k) (.slice A' (k + 1) c') u5 l' hr HQ11 hll2 _ _ _ _ _ ?_
              intro s82 s83 s84 s85 s86 s87 s88 s89 s90 s91 s92 s93 v' x w3 h
              go_wp2_with fail
              go_meet
              exact ⟨_, by
                have h2 := h.out
                rw [hpq] at h2
                exact hid h2⟩
            · have hpq : parV [118, ch] [45] true [litV neverS] = pQ k := by
                unfold pQ opQ
                rw [HNM.out]
                simp [hr]
              refine q_reg12_1 k ch w wc (lQ vs (k + 1)) (wQ bs k ++ tQ bs k) (.slice A' (k + 1) c') u5 l' hr HQ11 hll2 _ _ _ _ _ ?_
              intro s82 s83 s84 s85 s86 s87 s88 s89 s90 s91 s92 s93 v' x w3 h
              go_wp2_with fail
              go_meet
              exact ⟨_, by
                have h2 := h.out
                rw [hpq] at h2
                exact hid h2⟩
            · have hpq : parV [118, ch] [58, 63] true [litV neverS] = pQ k := by
                unfold pQ opQ
                rw [HNM.out]
                simp [hr]
              refine q_reg12_2 k ch w wc (lQ vs (k + 1)) (wQ bs k ++ tQ bs k) (.slice A' (k + 1) c') u5 l' hr HQ11 hll2 _ _ _ _ _ ?_
              intro s82 s83 s84 s85 s86 s87 s88 s89 s90 s91 s92 s93 v' x w3 h
              go_wp2_with fail
              go_meet
              exact ⟨_, by
                have h2 := h.out
                rw [hpq] at h2
                exact hid h2⟩
            · have hpq : parV [118, ch] [61] true [litV neverS] = pQ k := by
                unfold pQ opQ
                rw [HNM.out]
                simp [hr]
              refine q_reg12_3 k ch w wc (lQ vs (k + 1)) (wQ bs k ++ tQ bs k) (.slice A' (k + 1) c') u5 l' hr HQ11 hll2 _ _ _ _ _ ?_
              intro s82 s83 s84 s85 s86 s87 s88 s89 s90 s91 s92 s93 v' x w3 h
              go_wp2_with fail
              go_meet
              exact ⟨_, by
                have h2 := h.out
                rw [hpq] at h2
                exact hid h2⟩
          case rest =>
            obtain ⟨l'', HQ12⟩ := hcut
            obtain ⟨b3, c3, e3, d3⟩ := QI.last (lv := lQ vs k) (x := (nmQ k, uQ vs k)) HQ12.out
            rw [hll, Value.slice.injEq] at e3
            obtain ⟨rfl, -, -⟩ := e3
            rw [hll] at d3
            obtain ⟨A5, c5, rfl, hP5⟩ := HQ12.out.word.patt
            have k0 : wc.cell? ⟨w.heap.size, 0, none⟩ = some (.slice (some ⟨b3, 0, none⟩) (k + 1) c') := by rw [HQ12.out.box.cell]; rfl
            have k1 : wc.cell? ⟨w.heap.size, 1, none⟩ = some (.slice none 0 0) := by rw [HQ12.out.box.cell]; rfl
            have k2 : wc.cell? ⟨w.heap.size, 2, none⟩ = some (.int .i64 0) := by rw [HQ12.out.box.cell]; rfl
            have hs12 : w.heap.size < wc.heap.size := HQ12.out.box.lt
            have hkk : (k : Int) < (k : Int) + 1 := by omega
            obtain ⟨u', hu'⟩ : ∃ u', u' = uQ vs k := ⟨_, rfl⟩
            rw [← hu'] at d3
            obtain ⟨S1, hS1⟩ : ∃ S1, S1 = sQ vs bs k ++ bT bs k := ⟨_, rfl⟩
            have hS2 : S1 ++ u' = sQ vs bs (k + 1) := by rw [hS1, hu']; rfl
            have hSl : (S1 ++ u').length ≤ 960 := by have := sQ_len vs bs (k + 1); rw [hS2]; omega
            rw [← hS1]
            rw [List.length_append] at hSl
            have HU' := hid hu'
            have HS2 := hid hS2
            have HP5 := hid hP5
            clear hP5 hS1 hS2 hu' HQ11 hll hll2 hs11
            obtain ⟨r, hr⟩ : ∃ r, r = k % 4 := ⟨_, rfl⟩
            have hrI : (k : Int).tmod 4 = (r : Int) := by
              rw [Int.tmod_eq_emod_of_nonneg (by omega)]
              omega
            by_cases hbad : r = 2 ∧ u' = []
            · obtain ⟨h2, rfl⟩ := hbad
              have HR2 := hid (hr.symm.trans h2)
              subst h2
              clear hr
              have hE2 := quoted_bad vs bs hk8 HB.out ⟨HR2.out, HU'.out.symm⟩
              have hx := fun W2 h1 h2 h3 => expand_any (fun j => w.heap.size ≤ j) wc.heap.size (eQ vs (k + 1)) (wQ bs (k + 1)) A5 c5 W2 h1 (by have := HT.out.pos; omega) h2 h3 (wb_wQ vs bs hk8)
              generalize evalW 20 (wQ bs (k + 1)) (eQ vs (k + 1)) = o at *
              obtain ⟨oe, oF, os⟩ := o
              dsimp only at hE2
              subst hE2
              have HX := hid hx
              clear hx
              go_wp2_with fail
              have hb15 : Below wc.heap.size wc (wc.alloc (.cells #[.slice (some ⟨b3, 0, none⟩) (k + 1) c', .slice none 0 0, .int .i64 0, .slice none 0 0] 31)) := (Below.refl _ _).alloc (Nat.le_refl _) _
              have hE : EnvAt (wc.alloc (.cells #[.slice (some ⟨b3, 0, none⟩) (k + 1) c', .slice none 0 0, .int .i64 0, .slice none 0 0] 31)) (fun j => w.heap.size ≤ j) wc.heap.size (eQ vs (k + 1)) := envAt_made (B := w.heap.size) (w := wc) (vL := .slice (some ⟨b3, 0, none⟩) (k + 1) c') (AA := none) (cA := 0) (by omega) rfl (own_base HQ12.out.vars fun _ _ => Nat.zero_le _) (.inl fun r hr => by have := own_above HQ12.out.vars hr; omega) TR.nil hb15 (by omega) (heap_alloc_new wc _)
              refine (HX.out _ hE ((HT.out.below HQ12.out.bel).below hb15) (HP5.out.below hb15)).mono ?_
              rintro e w16 ⟨v16, rfl, _, _, _, hK16⟩
              have hB16 : Below w.heap.size w w16 := (HQ12.out.bel.trans (hb15.mono HQ12.out.bel.size)).trans (hK16.toBelow (Nat.le_trans HQ12.out.bel.size hb15.size) fun k t h => h.1)
              have HB16 := hid hB16
              clear hK16 hE hb15 hB16
              go_wp2_with fail
              refine (works_any w16 (HT.out.below HB16.out)).mono ?_
              rintro e w17 ⟨rfl, hB17⟩
              have HB17 := hid (HB16.out.trans (hB17.mono HB16.out.size))
              clear hB17
              go_wp2_with fail
              go_ret
              exact ⟨rfl, HB17.out⟩
            · have HBAD : Hid (¬ badQ vs k) := hid fun h => hbad ⟨hr.trans h.1, HU'.out.trans h.2⟩
              by_cases h2 : r = 2
              · subst h2
                have hne : ¬ u' = [] := fun e => hbad ⟨rfl, e⟩
                clear hr hbad
                obtain ⟨x, xs, rfl⟩ : ∃ x xs, u' = x :: xs := by
                  cases u' with
                  | nil => exact absurd rfl hne
                  | cons x xs => exact ⟨x, xs, rfl⟩
                clear hne
                have hSl' : S1.length + (xs.length + 1) ≤ 960 := by simpa using hSl
                clear hSl
                go_wp2_with fail
                go_roundg (gk - 1)
                case measure =>
                  go_light
                  have := HM.out
                  omega
                case rel =>
                  go_light
                  refine ⟨k + 1, by have := HM.out; omega, int_cast (by omega), ?_, _, l'', HQ12, hid fun i hi => ?_⟩
                  · rw [← HS2.out]
                  · rcases Nat.lt_succ_iff_lt_or_eq.1 hi with h | rfl
                    · exact HB.out i h
                    · exact HBAD.out
              · have h2I : ¬ (r : Int) = 2 := by omega
                clear hr hbad h2
                go_wp2_with fail
                go_roundg (gk - 1)
                case measure =>
                  go_light
                  have := HM.out
                  omega
                case rel =>
                  go_light
                  refine ⟨k + 1, by have := HM.out; omega, int_cast (by omega), ?_, _, l'', HQ12, hid fun i hi => ?_⟩
                  · rw [← HS2.out]
                  · rcases Nat.lt_succ_iff_lt_or_eq.1 hi with h | rfl
                    · exact HB.out i h
                    · exact HBAD.out
    · have hkK : k = K := by have := HM.out; omega
      subst hkK
      have hk8 : k ≤ 8 := by have := HK.out; omega
      have hex : k < vs.length → ¬ k < 8 := by have := HK.out; omega
      have hll : (lQ vs k).length = k := lQ_length vs k
      obtain ⟨AL, cL, hvL, _, _⟩ := own_form HQ.out.vars
      rw [hll] at hvL
      subst hvL
      obtain ⟨A5, c5, rfl, hP5⟩ := HQ.out.word.patt
      have k0 : wr.cell? ⟨w.heap.size, 0, none⟩ = some (.slice AL k cL) := by rw [HQ.out.box.cell]; rfl
      have k1 : wr.cell? ⟨w.heap.size, 1, none⟩ = some (.slice none 0 0) := by rw [HQ.out.box.cell]; rfl
      have k2 : wr.cell? ⟨w.heap.size, 2, none⟩ = some (.int .i64 0) := by rw [HQ.out.box.cell]; rfl
      have hs12 : w.heap.size < wr.heap.size := HQ.out.box.lt
      have HP5 := hid hP5
      clear hP5 hk hll
      go_upto_region 5 with fail
      go_cut [24] (fun s24 wx => s24 = .bool false ∧ wr = wx)
      case first =>
        by_cases hv : k < vs.length
        · have hvI : (k : Int) < (vs.length : Int) := by omega
          have h8 := hex hv
          have h8I : ¬ (k : Int) < 8 := by omega
          clear hex h8
          go_wp2_with fail
          go_meet
          exact ⟨rfl, rfl⟩
        · have hvI : ¬ (k : Int) < (vs.length : Int) := by omega
          clear hex
          go_wp2_with fail
          go_meet
          exact ⟨rfl, rfl⟩
      case rest =>
        obtain ⟨rfl, rfl⟩ := hcut
        clear hex
        obtain ⟨hE0, hF0⟩ := quoted_ok vs bs hk8 HB.out
        have hx := fun W2 h1 h2 h3 => expand_any (fun j => w.heap.size ≤ j) wr.heap.size (eQ vs k) (wQ bs k) A5 c5 W2 h1 (by have := HT.out.pos; omega) h2 h3 (wb_wQ vs bs hk8)
        generalize evalW 20 (wQ bs k) (eQ vs k) = o at *
        obtain ⟨oe, oF, os⟩ := o
        dsimp only at hE0 hF0
        subst hE0 hF0
        have HX := hid hx
        clear hx
        go_upto_region 17 with fail
        go_wp2_with fail
        have hb15 : Below wr.heap.size wr (wr.alloc (.cells #[.slice AL k cL, .slice none 0 0, .int .i64 0, .slice none 0 0] 31)) := (Below.refl _ _).alloc (Nat.le_refl _) _
        have hE : EnvAt (wr.alloc (.cells #[.slice AL k cL, .slice none 0 0, .int .i64 0, .slice none 0 0] 31)) (fun j => w.heap.size ≤ j) wr.heap.size (eQ vs k) := by
          have hv := HQ.out.vars
          have hA := heap_alloc_new wr (.cells #[.slice AL k cL, .slice none 0 0, .int .i64 0, .slice none 0 0] 31)
          refine envAt_made (B := w.heap.size) (w := wr) (vL := .slice AL k cL) (AA := none) (cA := 0) (by omega) rfl (own_base hv fun _ _ => Nat.zero_le _) (.inl fun r hr => by have := own_above hv hr; omega) TR.nil hb15 (by omega) hA
        refine (HX.out _ hE ((HT.out.below HQ.out.bel).below hb15) (HP5.out.below hb15)).mono ?_
        rintro e w16 ⟨v16, rfl, hF16, _, _, hK16⟩
        have hB16 : Below w.heap.size w w16 := (HQ.out.bel.trans (hb15.mono HQ.out.bel.size)).trans (hK16.toBelow (Nat.le_trans HQ.out.bel.size hb15.size) fun k t h => h.1)
        have HB16 := hid hB16
        obtain ⟨A6, c6, rows, rfl, hT1, _, hR1⟩ := (hF16 (by first | trivial | rfl)).row
        obtain ⟨g, hg⟩ : ∃ g, g = gQ vs bs k := ⟨_, rfl⟩
        rw [← hg] at hT1 hR1 ⊢
        obtain ⟨u, hu, AR, cR, rfl, hTR, _⟩ := hR1.get (i := 0) (by simp)
        obtain ⟨b, off, cur, fz, rfl, hb, hcur⟩ := hT1.2 (by simp)
        have z1 : w16.cell? ⟨b, off, none⟩ = some (.slice AR g.length cR) := by
          have := (cell_of_row w16 b (off + 0) cur 38 fz hb).trans (hcur 0 _ hu)
          simpa using this
        have hl1 : ([g] : Flds).length = 1 := rfl
        have HTR := hid hTR
        have hgl : g.length ≤ 16 := by rw [hg]; exact gQ_len vs bs k hk8
        have HG := hid hg
        have hglI : (g.length : Int) ≤ 16 := by omega
        clear hK16 hE hb15 hB16 hF16 hT1 hR1 hu hTR hb hcur hg k0 k1 k2
        go_wp2_with fail
        go_loopg [14, 15] g.length (fun m v14 v15 wx => ∃ j : Nat, m + j = g.length ∧ v15 = .int .i64 j ∧ v14 = .string ⟨((g.take j).flatMap RunV.t).toArray⟩ ∧ w16 = wx)
        case atStart => exact ⟨0, by omega, rfl, by simp, rfl⟩
        case round =>
          obtain ⟨j, hm, rfl, rfl, rfl⟩ := hrel
          have HMJ := hid hm
          clear hm
          have hql : ((g.take j).flatMap RunV.t).length ≤ 960 := by
            have h1 : (g.flatMap RunV.t).length ≤ 960 := by
              rw [HG.out, (gQ_runs vs bs k).2]
              have := sQ_len vs bs k
              omega
            have h2 : g.flatMap RunV.t = (g.take j).flatMap RunV.t ++ (g.drop j).flatMap RunV.t := by rw [← List.flatMap_append, List.take_append_drop]
            rw [h2, List.length_append] at h1
            omega
          by_cases hj : j < g.length
          · have hjI : (j : Int) < (g.length : Int) := by omega
            obtain ⟨b2, off2, hA2, hb2, hc2⟩ := HTR.out.rc.at_ hj
            subst hA2
            obtain ⟨g1, g2, g3⟩ := rnv_get g j hj
            have y0 := hc2 0 _ g1
            have y1 := hc2 1 _ g2
            have y2 := hc2 2 _ g3
            rw [Nat.add_zero] at y0
            rw [← Nat.add_assoc] at y1 y2
            have hmem : g.getD j run0 ∈ g := by
              rw [List.getD_eq_getElem?_getD, List.getElem?_eq_getElem hj]
              exact List.getElem_mem hj
            have hq := (gQ_runs vs bs k).1
            rw [← HG.out] at hq
            obtain ⟨q1, q2⟩ := hq _ hmem
            clear hq
            have hsucc : (g.take (j + 1)).flatMap RunV.t = (g.take j).flatMap RunV.t ++ (g.getD j run0).t := by
              rw [getD_succ g run0 hj, List.flatMap_append]
              simp
            have hr2 : ((g.take (j + 1)).flatMap RunV.t).length ≤ 960 := by
              have h1 : (g.flatMap RunV.t).length ≤ 960 := by
                rw [HG.out, (gQ_runs vs bs k).2]
                have := sQ_len vs bs k
                omega
              have h2 : g.flatMap RunV.t = (g.take (j + 1)).flatMap RunV.t ++ (g.drop (j + 1)).flatMap RunV.t := by rw [← List.flatMap_append, List.take_append_drop]
              rw [h2, List.length_append] at h1
              omega
            rw [hsucc, List.length_append] at hr2
            rw [q1] at y1
            rw [q2] at y2
            obtain ⟨T, hT⟩ : ∃ T, T = (g.getD j run0).t := ⟨_, rfl⟩
            obtain ⟨S2, hS2⟩ : ∃ S2, S2 = (g.take j).flatMap RunV.t := ⟨_, rfl⟩
            rw [← hT, ← hS2] at hsucc hr2
            rw [← hT] at y0
            rw [← hS2]
            have HS := hid hsucc
            clear hb2 hc2 g1 g2 g3 q1 q2 hmem hsucc hql hT hS2
            go_wp2_with fail
            go_roundg (gk - 1)
            case measure =>
              go_light
              have := HMJ.out
              omega
            case rel =>
              go_light
              exact ⟨j + 1, by have := HMJ.out; omega, int_cast (by omega), by rw [HS.out], rfl⟩
          · have hjj : j = g.length := by have := HMJ.out; omega
            subst hjj
            have hfin : (g.take g.length).flatMap RunV.t = sQ vs bs k := by rw [List.take_length, HG.out, (gQ_runs vs bs k).2]
            rw [hfin]
            clear hj hql hfin
            go_wp2_with fail
            refine (works_any w16 (HT.out.below HB16.out)).mono ?_
            rintro e w17 ⟨rfl, hB17⟩
            have HB17 := hid (HB16.out.trans (hB17.mono HB16.out.size))
            clear hB17
            go_wp2_with fail
            go_ret
            exact ⟨rfl, HB17.out⟩
end Go.Proofs.YtklihdlfbhgpeaaDoor
