/-
  The walks of join and flat.
-/
import Derived.Test.YtklihdlfbhgpeaaDoorE3
namespace Go.Proofs.YtklihdlfbhgpeaaDoor
open Go.RowKit
set_option linter.unusedVariables false

theorem joinF_push (F G : Flds) (g : List RunV) (h : G ≠ []) : joinF F (G ++ [g]) = joinF F G ++ [g] := by
  cases G with
  | nil => exact absurd rfl h
  | cons a r => simp [joinF]
theorem joinF_len1 (X : Flds) (h : List RunV) (hX : X ≠ []) : (joinF X [h]).length = X.length ∧ (joinF X [h]).getLastD [] = X.getLastD [] ++ h := by
  obtain ⟨Y, y, rfl⟩ := snoc_of_ne hX
  rw [joinF_snoc]
  simp
theorem joinF_length (F G : Flds) (hF : F ≠ []) (hG : G ≠ []) : (joinF F G).length = F.length + G.length - 1 := by
  obtain ⟨Y, y, rfl⟩ := snoc_of_ne hF
  cases G with
  | nil => exact absurd rfl hG
  | cons g r => rw [joinF_snoc]; simp; omega
theorem getD_sum : ∀ (G : Flds) {i : Nat}, i < G.length → (G.getD i []).length ≤ (G.map List.length).sum
  | g :: G, 0, _ => by simp
  | g :: G, i + 1, h => by
    have := getD_sum G (i := i) (by simpa using h)
    simp at this ⊢
    omega
/-- The step 'f.l = append(f.l, nil)'. -/
theorem push_facts {w w2 : World} {T : Nat → Prop} {fb Eb : Nat} {deep : Int} {tmp : Obj} {v lv v' : Value} {X : Flds} {y : List RunV} {prev : List Value}
    (up : ∀ k, w.heap.size ≤ k → T k) (own : T fb) (h2 : At w fb 69 #[.iface 28 (.pointer (some ⟨Eb, 0, none⟩)), v, .int .i64 deep]) (h3 : w.ownsRow 0 38 1 v (X.length + 1) (prev ++ [lv]))
    (h4 : ∀ r, v.ownBlock = some r → T r) (h5 : w.ownsRow 0 40 3 lv y.length (rnv y)) (h6 : ∀ r, lv.ownBlock = some r → T r) (h7 : RowsAt w (fun b => T b ∧ lv.ownBlock ≠ some b) prev X)
    (hown : w2.ownsRow 0 38 1 v' (X.length + 1 + 1) (prev ++ [lv] ++ [.slice none 0 0])) (hg : (w.alloc tmp).grownBy w2 v.ownBlock)
    (hb : v'.ownBlock = v.ownBlock ∨ v'.ownBlock = some (w.alloc tmp).heap.size) :
    ∃ A' c', v' = .slice A' (X.length + 1 + 1) c' ∧ w2.cell? ⟨fb, 1, none⟩ = some v ∧ w2.frozen? ⟨fb, 1, none⟩ = false ∧
      Hid (FieldsAt (w2.setCell ⟨fb, 1, none⟩ (.slice A' (X.length + 1 + 1) c')) T fb Eb (X ++ [y] ++ [[]]) deep ∧ Kw (MF T) w (w2.setCell ⟨fb, 1, none⟩ (.slice A' (X.length + 1 + 1) c'))) := by
  have k1 : Kw (fun k t => v.ownBlock = some k ∧ t = 38) w (w.alloc tmp) := (Kw.refl _ _).alloc _
  have k2 : Kw (fun k t => v.ownBlock = some k ∧ t = 38) (w.alloc tmp) w2 := Kw.grown hg fun r hr => by
    obtain ⟨cur, hc⟩ := own_cells (own_alloc h3 tmp) hr
    exact ⟨cur, 38, (0, 0), hc, hr, rfl⟩
  have k3 := k1.trans k2
  have hF2 := k3.at_ h2 (fun h => absurd h.2 (by decide))
  obtain ⟨A', c', rfl, _, _⟩ := own_form hown
  have hF3 : At (w2.setCell ⟨fb, 1, none⟩ (.slice A' (X.length + 1 + 1) c')) fb 69 #[.iface 28 (.pointer (some ⟨Eb, 0, none⟩)), .slice A' (X.length + 1 + 1) c', .int .i64 deep] := hF2.set 1 _
  have k4 : Kw (fun k t => k = fb ∧ t = 69) w2 (w2.setCell ⟨fb, 1, none⟩ (.slice A' (X.length + 1 + 1) c')) := (Kw.refl _ _).set hF2 ⟨rfl, rfl⟩ _ _
  have hTv : ∀ r, (Value.slice A' (X.length + 1 + 1) c').ownBlock = some r → T r := fun r hr => by
    rcases hb with e | e
    · exact h4 r (e ▸ hr)
    · rw [e] at hr; injection hr with hr; exact up r (by simp at hr; omega)
  obtain ⟨AL, cL, rfl, _, hbl⟩ := own_form h5
  refine ⟨A', c', rfl, by rw [hF2.cell]; rfl, hF2.frozen 1, ⟨fun k hk => up k (Nat.le_trans (Nat.le_trans k3.size k4.size) hk), own, _, X ++ [y], [], prev ++ [.slice AL y.length cL], .slice none 0 0, rfl, hF3, ?_, hTv, World.ownsRow_nil _ _ _ _, (by intro r hr; cases hr), ?_⟩, ?_⟩
  · have e : (X ++ [y] ++ [([] : List RunV)]).length = X.length + 1 + 1 := by simp
    rw [e]
    exact own_kw hown k4 fun r _ h => absurd h.2 (by decide)
  · have m1 : RowsAt w T prev X := h7.mono fun b hb hh => hh.1
    have m2 : RowsAt w T (prev ++ [.slice AL y.length cL]) (X ++ [y]) := RowsAt.snoc ⟨AL, cL, rfl, TR.of_own h5, fun _ b off e => h6 b (hbl b off e)⟩ m1
    refine RowsAt.mono (fun b _ hh => ⟨hh, by intro h; cases h⟩) (RowsAt.kw k4 (fun b _ h => absurd h.2 (by decide)) (RowsAt.kw k3 (fun b _ h => absurd h.2 (by decide)) m2))
  · exact (k3.mono (N := MF T) fun k t _ h => ⟨h4 k h.1, .inr (.inl h.2)⟩).trans (k4.mono fun k t _ h => ⟨h.1 ▸ own, .inl h.2⟩)
set_option maxRecDepth 100000 in
set_option maxHeartbeats 4000000 in
theorem join_any (T Q : Nat → Prop) (fb Eb : Nat) (F G : Flds) (deep : Int) (v : Value) (w : World) (h : FieldsAt w T fb Eb F deep) (hG : FldOut w Q v G) (hd : ∀ b, Q b → ¬ T b)
    (hn : F.length + G.length ≤ 1000000000) (hy : (F.getLastD []).length + (G.map List.length).sum ≤ 1000000000) :
    Calls Tryd.prog 39 #[.pointer (some ⟨fb, 0, none⟩), v] w fun e w' => e = .returned (.tuple #[]) ∧ FieldsAt w' T fb Eb (joinF F G) deep ∧ Kw (MF T) w w' := by
  obtain ⟨A, c, rows, rfl, hA, hAQ, hR⟩ := hG.row
  have hGI : (G.length : Int) ≤ 1000000000 := by omega
  have HG := hid hG
  clear hG hA hAQ hR
  go_enter Tryd.func39, Tryd.ntmps39
  go_wp2_with fail
  go_loopg [10] G.length (fun m v10 wr => ∃ i : Nat, m + i = G.length ∧ v10 = .int .i64 i ∧ FieldsAt wr T fb Eb (joinF F (G.take i)) deep ∧ Kw (MF T) w wr)
  case atStart => exact ⟨0, rfl, rfl, h, Kw.refl _ _⟩
  case round =>
    obtain ⟨i, hm, rfl, hF, hK⟩ := hrel
    obtain ⟨g0, rfl⟩ : ∃ g0 : Nat, g0 = gk := ⟨_, rfl⟩
    have HM := hid hm
    have HK := hid hK
    by_cases hi : i < G.length
    · have hG2 := HG.out.kw hK (fun b t hb ht h => hd b hb h.1)
      obtain ⟨A2, c2, rows, hv, hA, hAQ, hR⟩ := hG2.row
      injection hv with hv1 hv2 hv3
      subst hv1 hv3
      obtain ⟨u, hu, AR, cR, rfl, hTR, hQR⟩ := hR.get hi
      obtain ⟨b, off, cur, fz, rfl, hb, hcur⟩ := hA.2 (by omega)
      have x1 : wr.cell? ⟨b, off + i, none⟩ = some (.slice AR (G.getD i []).length cR) := (cell_of_row wr b (off + i) cur 38 fz hb).trans (hcur i _ hu)
      have i1 : (i : Int) < (G.length : Int) := by omega
      have HF := hid hF
      clear hm hK hF hG2 hA hR hb hcur hu
      have HTR := hid hTR
      have HQR := hid hQR
      clear hTR hQR hAQ hv2
      generalize hg : G.getD i [] = g at x1 HTR HQR
      have HGG := hid hg
      clear hg
      have gS : g.length ≤ (G.map List.length).sum := by rw [← HGG.out]; exact getD_sum G hi
      have gI : (g.length : Int) ≤ 1000000000 := by omega
      rcases Nat.eq_zero_or_pos i with h0 | h0
      · subst h0
        rw [Nat.add_zero] at x1
        obtain ⟨W0, hW0⟩ : ∃ W0, W0 = wr := ⟨_, rfl⟩
        have HX : Hid (FieldsAt W0 T fb Eb F deep) := by rw [hW0]; exact HF.out
        rw [← hW0] at HTR
        go_wp2_with fail
        rw [← hW0]
        clear x1
        have HBX : Hid (F.length ≤ 1000000000 ∧ (F.getLastD []).length + g.length ≤ 1000000000) := ⟨by omega, by omega⟩
        go_loopg [28] g.length (fun m v28 wi => ∃ k : Nat, m + k = g.length ∧ v28 = .int .i64 k ∧ FieldsAt wi T fb Eb (joinF F [g.take k]) deep ∧ Kw (MF T) W0 wi)
        case atStart => exact ⟨0, rfl, rfl, by rw [List.take_zero, joinF_one _ HX.out.ne]; exact HX.out, Kw.refl _ _⟩
        case round =>
          obtain ⟨k, hm, rfl, hFk, hKk⟩ := hrel
          have HMK := hid hm
          have HKK := hid hKk
          by_cases hk : k < g.length
          · have hT2 := HTR.out.kw' hKk (fun h0 b off e h => hd b (HQR.out h0 b off e) h.1)
            obtain ⟨b2, off2, hA2, hb2, hc2⟩ := hT2.rc.at_ hk
            subst hA2
            obtain ⟨g1, g2, g3⟩ := rnv_get g k hk
            have y0 := hc2 0 _ g1
            have y1 := hc2 1 _ g2
            have y2 := hc2 2 _ g3
            rw [Nat.add_zero] at y0
            rw [← Nat.add_assoc] at y1 y2
            have k1 : (k : Int) < (g.length : Int) := by omega
            generalize hr : g.getD k run0 = r at y0 y1 y2
            obtain ⟨t, q, s⟩ := r
            have HRR := hid hr
            have hFA := hFk.alloc (.cells #[.string ⟨t.toArray⟩, .bool q, .bool s] 40)
            have HFA := hid hFA
            clear hm hKk hFk hT2 hc2 g1 g2 g3 hr hFA
            dsimp only at y0 y1 y2
            go_wp2_with fail
            obtain ⟨l1, l2⟩ := joinF_len1 F (g.take k) HX.out.ne
            refine (put_any T fb Eb _ deep ⟨t, q, s⟩ _ HFA.out (by rw [l1]; exact HBX.out.1) (by rw [l2, List.length_append, List.length_take]; have := HBX.out.2; omega)).mono ?_
            rintro e w5 ⟨rfl, hF5, hK5⟩
            have HF5 := hid hF5
            have HK5 := hid (HKK.out.trans (((Kw.refl _ _).alloc _).trans hK5))
            clear hF5 hK5 y0 y1 y2
            go_wp2_with fail
            go_roundg (gk - 1)
            case measure => go_light; have := HMK.out; omega
            case rel =>
              go_light
              have := HMK.out
              refine ⟨k + 1, by omega, int_cast (by omega), ?_, HK5.out⟩
              have h9 := HF5.out
              rw [joinF_assoc _ _ _ HX.out.ne (by simp)] at h9
              rw [getD_succ g run0 hk, HRR.out]
              exact h9
          · have := HMK.out
            obtain rfl : k = g.length := by omega
            have HFK := hid hFk
            clear hm hKk hFk
            go_wp2_with fail
            go_roundg (g0 - 1)
            case measure => go_light; have := HM.out; omega
            case rel =>
              go_light
              have := HM.out
              refine ⟨1, by omega, int_cast (by omega), ?_, ?_⟩
              · have h9 := HFK.out
                rw [List.take_length] at h9
                rw [getD_succ G [] hi, HGG.out]
                exact h9
              · have := HKK.out
                rw [hW0] at this
                exact HK.out.trans this
      · have hp : (0 : Int) < (i : Int) := by omega
        obtain ⟨up, own, v, X, y, prev, lv, hXY, h2, h3, h4, h5, h6, h7⟩ := HF.out
        obtain ⟨j0, hj, hz0, hz1, hz2⟩ := info_parts infoF
        have hYl : (joinF F (G.take i)).length = X.length + 1 := by rw [hXY]; simp
        rw [hYl] at h3
        have hFne : F ≠ [] := h.ne
        have hTne : G.take i ≠ [] := by
          intro e
          have := congrArg List.length e
          rw [List.length_take, List.length_nil] at this
          omega
        have hXl : X.length + 2 ≤ 1000000000 := by
          have e := joinF_length F _ hFne hTne
          rw [hYl, List.length_take] at e
          omega
        obtain ⟨gv, capv, rfl⟩ := own_some h3 (by omega)
        have c1 : wr.cell? ⟨fb, 1, none⟩ = some (.slice (some ⟨gv, 0, none⟩) (X.length + 1) capv) := by rw [h2.cell]; rfl
        have hfb := h2.lt
        have HUP := hid up
        have HOWN := hid own
        have H2 := hid h2
        have H3 := hid h3
        have H4 := hid h4
        have H5 := hid h5
        have H6 := hid h6
        have H7 := hid h7
        have HXY := hid hXY
        have HNE := hid hTne
        clear up own h2 h3 h4 h5 h6 h7 hXY hYl hFne hTne
        go_wp2_with (at_builtin; refine wpList_append_own_at _ rfl (.tmp 21) (.tmp 22) 32 rfl 0 38 j0 (.slice none 0 0) 1 24 Tryd.underlying32 hj hz0 hz1 hz2 rfl (by decide) _ (X.length + 1) _ rfl (own_alloc H3.out _) ⟨wr.heap.size, 0, none⟩ 1 1 [.slice none 0 0] rfl rfl (cell_one_new _ _ _) (by simp [Value.oneCell']) (by unfold maxLen; omega) (by omega) (by simp) ?_)
        intro v' w2 hown' hgrow hnil hat'
        obtain ⟨A', c', rfl, d1, f1, HP⟩ := push_facts HUP.out HOWN.out H2.out H3.out H4.out H5.out H6.out H7.out (by simpa using hown') hgrow (by simpa using hat')
        clear hown' hgrow hnil hat'
        go_wp2_with fail
        obtain ⟨W0, hW0⟩ : ∃ W0, W0 = w2.setCell ⟨fb, 1, none⟩ (.slice A' (X.length + 1 + 1) c') := ⟨_, rfl⟩
        rw [← hW0]
        have HX : Hid (FieldsAt W0 T fb Eb (joinF F (G.take i) ++ [[]]) deep) := by rw [hW0, HXY.out]; exact HP.out.1
        have HKP : Hid (Kw (MF T) wr W0) := by rw [hW0]; exact HP.out.2
        have HTR := hid (HTR.out.kw' HKP.out (fun h0 b off e h => hd b (HQR.out h0 b off e) h.1))
        clear x1 hW0 HP d1 f1 c1
        have HBX : Hid ((joinF F (G.take i) ++ [[]]).length ≤ 1000000000 ∧ ((joinF F (G.take i) ++ [[]]).getLastD []).length + g.length ≤ 1000000000) := by
          refine ⟨?_, by simp; omega⟩
          rw [HXY.out]
          simp
          omega
        go_loopg [28] g.length (fun m v28 wi => ∃ k : Nat, m + k = g.length ∧ v28 = .int .i64 k ∧ FieldsAt wi T fb Eb (joinF (joinF F (G.take i) ++ [[]]) [g.take k]) deep ∧ Kw (MF T) W0 wi)
        case atStart => exact ⟨0, rfl, rfl, by rw [List.take_zero, joinF_one _ HX.out.ne]; exact HX.out, Kw.refl _ _⟩
        case round =>
          obtain ⟨k, hm, rfl, hFk, hKk⟩ := hrel
          have HMK := hid hm
          have HKK := hid hKk
          by_cases hk : k < g.length
          · have hT2 := HTR.out.kw' hKk (fun h0 b off e h => hd b (HQR.out h0 b off e) h.1)
            obtain ⟨b2, off2, hA2, hb2, hc2⟩ := hT2.rc.at_ hk
            subst hA2
            obtain ⟨g1, g2, g3⟩ := rnv_get g k hk
            have y0 := hc2 0 _ g1
            have y1 := hc2 1 _ g2
            have y2 := hc2 2 _ g3
            rw [Nat.add_zero] at y0
            rw [← Nat.add_assoc] at y1 y2
            have k1 : (k : Int) < (g.length : Int) := by omega
            generalize hr : g.getD k run0 = r at y0 y1 y2
            obtain ⟨t, q, s⟩ := r
            have HRR := hid hr
            have hFA := hFk.alloc (.cells #[.string ⟨t.toArray⟩, .bool q, .bool s] 40)
            have HFA := hid hFA
            clear hm hKk hFk hT2 hc2 g1 g2 g3 hr hFA
            dsimp only at y0 y1 y2
            go_wp2_with fail
            obtain ⟨l1, l2⟩ := joinF_len1 (joinF F (G.take i) ++ [[]]) (g.take k) HX.out.ne
            refine (put_any T fb Eb _ deep ⟨t, q, s⟩ _ HFA.out (by rw [l1]; exact HBX.out.1) (by rw [l2, List.length_append, List.length_take]; have := HBX.out.2; omega)).mono ?_
            rintro e w5 ⟨rfl, hF5, hK5⟩
            have HF5 := hid hF5
            have HK5 := hid (HKK.out.trans (((Kw.refl _ _).alloc _).trans hK5))
            clear hF5 hK5 y0 y1 y2
            go_wp2_with fail
            go_roundg (gk - 1)
            case measure => go_light; have := HMK.out; omega
            case rel =>
              go_light
              have := HMK.out
              refine ⟨k + 1, by omega, int_cast (by omega), ?_, HK5.out⟩
              have h9 := HF5.out
              rw [joinF_assoc _ _ _ HX.out.ne (by simp)] at h9
              rw [getD_succ g run0 hk, HRR.out]
              exact h9
          · have := HMK.out
            obtain rfl : k = g.length := by omega
            have HFK := hid hFk
            clear hm hKk hFk
            go_wp2_with fail
            go_roundg (g0 - 1)
            case measure => go_light; have := HM.out; omega
            case rel =>
              go_light
              have := HM.out
              refine ⟨i + 1, by omega, int_cast (by omega), ?_, ?_⟩
              · have h9 := HFK.out
                rw [List.take_length] at h9
                rw [getD_succ G [] hi, HGG.out, joinF_push _ _ _ HNE.out]
                rw [joinF_snoc] at h9
                exact h9
              · have := HKK.out
                exact HK.out.trans (HKP.out.trans this)
    · have := HM.out
      obtain rfl : i = G.length := by omega
      have HF := hid hF
      clear hm hK hF
      go_wp2_with fail
      go_end0
      refine ⟨rfl, ?_, HK.out⟩
      have := HF.out
      rwa [List.take_length] at this
end Go.Proofs.YtklihdlfbhgpeaaDoor
