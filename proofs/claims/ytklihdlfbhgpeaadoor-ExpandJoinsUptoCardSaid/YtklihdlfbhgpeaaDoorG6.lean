/-
  The walk of the program's pieces.
-/
import Derived.Test.YtklihdlfbhgpeaaDoorG5
namespace Go.Proofs.YtklihdlfbhgpeaaDoor
open Go.RowKit Go.Shelf
set_option linter.unusedVariables false
attribute [local go_sem] Oper.semAt_some

theorem keepT_row {W W1 : World} {tmp : Obj} {base size k : Nat} {v : Value} {xs : List Value} (hr : W.ownsRow base 121 size v k xs) (hg : (W.alloc tmp).grownBy W1 v.ownBlock) : KeepT W W1 := by
  intro j cs t fz h1 _ hh
  have hlt := (Array.getElem?_eq_some_iff.1 hh).1
  have h2 := (Below.heap_alloc W tmp j hlt).trans hh
  refine (hg.block j (by simp; omega) (fun e => ?_)).trans h2
  rcases hr.2 with ⟨rfl, _⟩ | ⟨g, cap, cur, rfl, _, hgb, _⟩
  · simp [Value.ownBlock] at e
  · obtain rfl : j = g := by simpa [Value.ownBlock] using e
    rw [hgb] at hh
    injection hh with hh
    injection hh with _ h2
    exact h1 h2.symm
theorem keepT_set {W : World} {g : Nat} {v u : Value} (hb : Boxed W g 116 v) : KeepT W (W.setCell ⟨g, 0, none⟩ u) := by
  intro j cs t fz _ h2 hh
  refine (Below.heap_setCell W ⟨g, 0, none⟩ u j ?_).trans hh
  rintro rfl
  rw [show W.heap[j]? = _ from hb] at hh
  injection hh with hh
  injection hh with _ h3
  exact h2 h3.symm
theorem KeepT.trans {X Y Z : World} (h : KeepT X Y) (k : KeepT Y Z) : KeepT X Z := fun j cs t fz h1 h2 hh => k j cs t fz h1 h2 (h j cs t fz h1 h2 hh)
theorem keepT_alloc (W : World) (o : Obj) : KeepT W (W.alloc o) := fun j cs t fz _ _ hh => (Below.heap_alloc W o j (Array.getElem?_eq_some_iff.1 hh).1).trans hh

set_option maxRecDepth 100000 in
set_option maxHeartbeats 2000000 in
theorem pieces_any (A : Option Addr) (c : Nat) (rs : List RunV) (hl : rs.length ≤ 100000000) (hls : ∀ r ∈ rs, r.t.length ≤ 1000000000) (hcs : (chs rs).length ≤ 1000000000) (w : World) (hr : Rns w A rs) :
    Calls Tryd.prog 54 #[.slice A rs.length c] w fun e w' => (∃ v, e = .returned v ∧ PcsAt w' w.heap.size v (pieces (chs rs))) ∧ Below w.heap.size w w' := by
  have HR := hid hr
  have HLS := hid hls
  clear hr hls
  refine (callsIn_wide (n := 3)).1 ?_
  refine callsIn_of_wp_marks Tryd.func54 rfl trivial ?_ rfl
  simp only [Tryd.ntmps54, List.size_toArray, List.length_cons, List.length_nil, Nat.reduceAdd, Nat.reduceSub, Array.replicate_succ, Array.replicate_zero, List.push_toArray, List.append_toArray, List.nil_append, List.cons_append]
  gi_wp2_with (refine ⟨trivial, ?_⟩; gi_at_call 59; refine (callsIn_wide.2 (chars_any _ _ _ _)).mono ?_; rintro e w1 ⟨rfl, rfl⟩)
  obtain ⟨W, hW⟩ : ∃ W, W = (w.alloc (.cells #[.slice none 0 0] 116)).alloc (.cells #[.slice A rs.length c] 38) := ⟨_, rfl⟩
  rw [← hW]
  have hWz : W.heap.size = w.heap.size + 2 := by rw [hW]; simp
  have hWb : Below w.heap.size w W := by rw [hW]; exact ((Below.refl _ _).alloc (Nat.le_refl _) _).alloc (by simp) _
  have hWl : Boxed W w.heap.size 116 (.slice none 0 0) := by rw [hW]; exact (Boxed.new w 116 _).alloc _
  have hWs : At W (w.heap.size + 1) 38 #[.slice A rs.length c] := by rw [hW]; exact At.new' _ _ _ (by simp)
  have HZ := hid hWz
  clear hW
  refine wpIn_rangeFunc_ownH (α := Ch) rfl (by omega) (gf := 71) (lb := #[.pointer (some ⟨w.heap.size + 1, 0, none⟩)]) rfl trivial (enters_of Tryd.func71 (by kernel_rfl) rfl)
    (chars_stops Fence.wide 2 trivial rfl (by omega) A c rs (by omega) HLS.out w.heap.size w W rfl hWb HR.out (w.heap.size + 1) hWs)
    (fun h k => ⟨h.1.trans k.1, h.2.trans k.2⟩) ?hKb (Below.refl _ _) (fun _ => rfl)
    (fun pre X => (∃ v, Boxed X w.heap.size 116 v ∧ X.ownsRow w.heap.size 121 2 v pre.length (chv pre) ∧ True) ∧ Below w.heap.size w X) (fun _ _ _ => False)
    (OwnFrom.and (Own.from (holdsRow_own w.heap.size w.heap.size 116 121 2 (fun pre : List Ch => pre.length) chv (fun _ _ => True)) _) (ownFrom_below (Nat.le_refl _) (by have := HZ.out; omega)))
    (fun _ _ _ _ _ hs _ _ => hs)
    ⟨⟨_, hWl, World.ownsRow_nil _ _ _ _, trivial⟩, hWb⟩
    (fun x a' X => ∃ Bx, At X Bx 121 #[.int .u8 (x.1.toNat : Int), .bool x.2] ∧ a' = { tmps := #[.slice A rs.length c, undef, .slice none 0 0, .pointer (some ⟨w.heap.size, 0, none⟩), .pointer (some ⟨Bx, 0, none⟩), undef, undef, undef, undef, .slice A rs.length c, .func (.func 71) #[] #[.pointer (some ⟨w.heap.size + 1, 0, none⟩)], .agg #[.int .u8 (x.1.toNat : Int), .bool x.2], undef, undef, undef, undef, undef, undef, undef, undef, undef, undef, undef, undef, undef, undef, undef, undef, undef, undef, undef, undef, undef, undef, undef, undef, undef, undef, undef, undef, undef, undef, undef, undef, undef, undef, undef, undef, undef, undef, undef, undef, undef, undef, undef, undef, undef, undef, undef, undef], defers := [] })
    ?hAx ?assign ?body ?done ?stop
  case hKb =>
    intro X l o o' hl1 ho hc1 hw1
    refine ⟨below_putObj _ (by have := HZ.out; omega), fun j cs t fz _ _ hh => (World.putObj_heap_other ?_).trans hh⟩
    rintro rfl
    rw [ho] at hh
    cases hh
    cases hc1
  case hAx =>
    rintro x a' s X Y row ⟨Bx, hx, rfl⟩ hg hrow
    exact ⟨Bx, at_own (β := Unit) Bx 121 _ s X Y row hx hg (fun r e => (hrow r e).2), rfl⟩
  case assign =>
    rintro l' pre x X K ⟨⟨v, hv, hown, _⟩, hB⟩ hK
    simp only [encC]
    gi_wp2
    refine hK _ _ ((KeepsOthers.alloc _ _).from _) ⟨(Below.refl _ _).alloc hB.size _, keepT_alloc _ _⟩ ⟨⟨v, hv.alloc _, hown.alloc _, trivial⟩, hB.alloc hB.size _⟩ ⟨X.heap.size, At.new _ _ _, rfl⟩
  case body =>
    rintro l' pre x a' X hl1 hl2 ⟨⟨v, hv, hown, _⟩, hB⟩ ⟨Bx, hx, rfl⟩ hlen
    obtain ⟨i0, hi, hz0, hz1, hz2⟩ := info_parts info73
    have hvc := hv.cell
    have hvf := hv.frozen
    have x0 := hx.cell 0
    have x1 := hx.cell 1
    simp only [List.getElem?_toArray, List.getElem?_cons_zero, List.getElem?_cons_succ] at x0 x1
    have HX := hid hx
    have hnx : (pre ++ [x]).length = pre.length + 1 := by simp
    have hcn : chv (pre ++ [x]) = chv pre ++ [.int .u8 (x.1.toNat : Int), .bool x.2] := by rw [chv_append]; rfl
    have HN := hid (And.intro hnx hcn)
    clear hx hnx hcn
    gi_wp2_with (gi_at_builtin; refine wpListIn_append_own _ rfl (.tmp 12) (.tmp 14) 116 rfl w.heap.size 121 i0 (.agg #[.int .u8 0, .bool false]) 2 2 Tryd.underlying116 hi hz0 hz1 hz2 rfl (by decide) v pre.length _ rfl (hown.alloc _) ⟨X.heap.size, 0, none⟩ 1 1 [.int .u8 (x.1.toNat : Int), .bool x.2] rfl rfl (World.news_of_block (cs := #[.int .u8 (x.1.toNat : Int), .bool x.2]) (heap_alloc_new X _)) (by simp [Value.oneCell']) (by unfold maxLen; omega) (by omega) (by have := hB.size; simp; omega) ?_; intro v' w1 hown' hgrow _; obtain ⟨g', cap', rfl⟩ := ownsRow_succ hown'; obtain ⟨hv1, hv2, hr2, hk2, hb2⟩ := hv.appended (by decide) hown hB.size (Nat.le_refl _) hown' hgrow; have hc1 := hv1.cell; have hf1 := hv1.frozen)
    refine ⟨hk2.from _, ⟨hb2, ?_⟩, ⟨_, hv2, ?_, trivial⟩, hB.trans hb2⟩
    · exact (keepT_row hown hgrow).trans (keepT_set hv1)
    · rw [HN.out.1, HN.out.2]; exact hr2
  case done =>
    rintro D xs X hD rfl ⟨⟨v, hv, hown, _⟩, hB⟩ hdf
    obtain ⟨A1, c1, rfl, hc1, hcm1⟩ : ∃ A1 c1, v = .slice A1 (chs rs).length c1 ∧ (chs rs).length ≤ c1 ∧ c1 ≤ maxLen := by
      rcases hown.2 with ⟨h1, h2⟩ | ⟨g, cap, cur, h1, _, _, h3, h4, _⟩
      · exact ⟨none, 0, by rw [h1, h2], by omega, by simp [maxLen]⟩
      · exact ⟨_, _, h1, h3, h4⟩
    have hrow : TRow X w.heap.size A1 (chs rs) := TRow.of_own hown hv
    obtain ⟨L, hL⟩ : ∃ L, L = chs rs := ⟨_, rfl⟩
    have HL := hid hL
    rw [← hL] at hc1 hrow hcs
    have hv0 : At X w.heap.size 116 #[.slice A1 L.length c1] := by rw [hL]; exact hv
    have hDw : w.heap.size + 2 ≤ D := by have := HZ.out; omega
    clear hL hown hv hWb hWl hWs hD HR HLS hWz
    obtain ⟨i0, hi, hz0, hz1, hz2⟩ := info_parts info44
    gi_wp2
    have hDl : D < X.heap.size := (Array.getElem?_eq_some_iff.1 hdf).1
    gi_loopg [5] L.length (fun m v5 wx => ∃ (l' : List Ch) (ps : List (Value × Pc)) (A' : Option Addr) (c' : Nat), m = l'.length ∧ PInv w X.heap.size D L l' ps A' c' v5 wx)
    case atStart => exact ⟨L, [], A1, c1, rfl, hv0, hrow, hc1, hcm1, World.ownsRow_nil _ _ _ _, by simp, rfl, by simp, hB, Nat.le_refl _, hv0.lt, hDw, hDl, hdf⟩
    case round =>
      clear hv0 hrow hc1 hcm1 hB hdf hDl hDw
      obtain ⟨l', ps, A', c', rfl, hP⟩ := hrel
      have b0 := hP.box.cell 0
      simp only [List.getElem?_toArray, List.getElem?_cons_zero] at b0
      by_cases h0 : l' = []
      · subst h0
        have HP := hid hP
        clear hP
        gi_wp2
        have hP := HP.out
        refine ⟨by simp, .inl ⟨_, _, rfl, run_takeDeferred hP.dfr, ?_⟩⟩
        refine ⟨_, results_tmp rfl _ _ _, ⟨_, rfl, ?_⟩, hP.bel.trans (below_putObj _ (by have := hP.dlow; omega))⟩
        have hq : ps.map (·.2) = pieces (chs rs) := by rw [← HL.out, ← hP.eq]; simp [pieces_nil]
        have hkk : K2 w.heap.size wr (wr.putObj D (.deferred none)) := ⟨by simp, fun j cs t fz _ _ hh => (World.putObj_heap_other (by rintro rfl; rw [hP.dfr] at hh; cases hh)).trans hh⟩
        obtain ⟨A2, c2, rfl⟩ : ∃ A2 c2, u5 = .slice A2 ps.length c2 := by
          rcases hP.own.2 with ⟨h1, h2⟩ | ⟨g, cap, cur, h1, _⟩
          · exact ⟨none, 0, by rw [h1, h2]⟩
          · exact ⟨_, _, h1⟩
        exact ⟨ps, A2, c2, hq, fun p hp => (hP.all p hp).keep hkk, rfl, Rc.of_own (ownsRow_putObj hP.own (.deferred none) hP.dfr rfl)⟩
      · have hp : 0 < l'.length := List.length_pos_iff.2 h0
        have hcap := hP.cap
        have hcapM := hP.capM
        have hlen := hP.len
        obtain ⟨b, off, rfl, hb, a1, a2⟩ := Cs.at_ (TRow.cs hP.row) hp
        rw [Nat.zero_mul, Nat.add_zero] at a1 a2
        have hse := set_any (some ⟨b, off, none⟩) c' l' (by omega) hcap hcapM
        have hpo := @pieces_one (l'.getD 0 (0, true)) (l'.drop 1)
        have hdc := drop_ch hp
        rw [List.drop_zero] at hdc
        rw [← hdc] at hpo
        obtain ⟨ch, hch⟩ : ∃ ch, ch = l'.getD 0 (0, true) := ⟨_, rfl⟩
        rw [← hch] at a1 a2 hpo
        have HSE := hid hse
        have HPO := hid hpo
        have ip0 : (0 : Int) < (l'.length : Int) := by omega
        have ip1 : (1 : Int) ≤ (l'.length : Int) := by omega
        have ip2 : (1 : Int) ≤ (c' : Int) := by omega
        unfold maxLen at hcapM
        have hlw := hP.box.lt
        have HP := hid hP
        clear h0 hse hpo hch hdc hP
        gi_wp2_with fail
        have hP1 : PInv w X.heap.size D L l' ps (some ⟨b, off, none⟩) c' u5 (wr.alloc (.cells #[.int .u8 (ch.1.toNat : Int), .bool ch.2] 121)) := HP.out.below ((Below.refl _ _).alloc (Nat.le_refl _) _)
        have hcb : At (wr.alloc (.cells #[.int .u8 (ch.1.toNat : Int), .bool ch.2] 121)) wr.heap.size 121 #[.int .u8 (ch.1.toNat : Int), .bool ch.2] := At.new _ _ _
        obtain ⟨cb, hcbe⟩ : ∃ cb, cb = wr.heap.size := ⟨_, rfl⟩
        rw [← hcbe] at hcb ⊢
        have hcbl : w.heap.size < cb := by omega
        generalize wr.alloc (.cells #[.int .u8 (ch.1.toNat : Int), .bool ch.2] 121) = w1 at hP1 hcb ⊢
        clear a1 a2 b0 hlw hcbe HP
        refine ⟨trivial, ?_⟩
        refine (callsIn_wide.2 (HSE.out w1 (TRow.cs hP1.row))).mono ?_
        rintro e w2 ⟨hres, hB2⟩
        have hP2 := hP1.below hB2
        have hcb2 := hcb.below hB2 hcb.lt
        have k0 := hcb2.cell 0
        have k1 := hcb2.cell 1
        have b2 := hP2.box.cell 0
        simp only [List.getElem?_toArray, List.getElem?_cons_zero, List.getElem?_cons_succ] at k0 k1 b2
        cases hs : setOf l' with
        | some r =>
          obtain ⟨neg, ins, n⟩ := r
          unfold SetRes at hres
          rw [hs] at hres
          obtain ⟨f, he, hfn⟩ := hres
          subst he
          have hfn' : SetFn w1.heap.size w2 (some ⟨b, off, none⟩) l' f neg ins := hfn
          have hpt := PieceT.of_set hP1.box.lt hfn' hP2.row
          have hpe := pieces_set hs
          have hnl := setOf_len hs
          obtain ⟨B1, B2, rfl⟩ : ∃ B1 B2, f = .func (.func 74) #[] #[.pointer (some ⟨B1, 0, none⟩), .pointer (some ⟨B2, 0, none⟩)] := by
            obtain ⟨B1, B2, _, _, _, _, _, h, _⟩ := hfn'
            exact ⟨B1, B2, h⟩
          have n1 : (0 : Int) < (n : Int) := by omega
          have n2 : (n : Int) ≤ (l'.length : Int) := by omega
          have n3 : (n : Int) ≤ (c' : Int) := by omega
          clear hs hP1 hB2 hcb hcb2 k0 k1 HSE HPO hfn' hfn
          by_cases hce : c' = n
          · have hcc : cutA (some ⟨b, off, none⟩) c' n = some ⟨b, off, none⟩ := by unfold cutA; rw [if_pos hce]
            have hcz : c' - n = 0 := by omega
            gi_wp2_with (gi_at_builtin; refine wpListIn_append_own _ rfl (.tmp 35) (.tmp 38) 108 rfl X.heap.size 112 i0 (.agg #[.bool false, .nilFunc, .bool false]) 3 24 Tryd.underlying108 hi hz0 hz1 hz2 rfl (by decide) u5 ps.length _ rfl (hP2.own.alloc _) ⟨w2.heap.size, 0, none⟩ 1 1 [.bool false, .func (.func 74) #[] #[.pointer (some ⟨B1, 0, none⟩), .pointer (some ⟨B2, 0, none⟩)], .bool true] rfl rfl (World.news_of_block (cs := #[.bool false, .func (.func 74) #[] #[.pointer (some ⟨B1, 0, none⟩), .pointer (some ⟨B2, 0, none⟩)], .bool true]) (heap_alloc_new w2 _)) (by simp [Value.oneCell']) (by unfold maxLen; have := hP2.len; omega) (by have := hP2.len; omega) (by have := hP2.up; simp; omega) ?_; intro v' w3 hown' hgrow _; obtain ⟨hb3, hP3⟩ := hP2.step hpt (k := n) (by omega) (by omega) hpe hown' hgrow; have b3 := hb3.cell 0; have f3 := hb3.frozen 0; simp only [List.getElem?_toArray, List.getElem?_cons_zero] at b3; rw [hcc, hcz] at hP3; have HP3 := hid hP3; clear hP3 hown' hgrow hb3)
            gi_roundg (l'.drop n).length
            case measure => go_light; rw [List.length_drop]; omega
            case rel =>
              go_light
              exact ⟨l'.drop n, _, _, 0, rfl, HP3.out⟩
          · have hcc : cutA (some ⟨b, off, none⟩) c' n = some ⟨b, off + n * 2, none⟩ := by
              unfold cutA
              rw [if_neg hce]
              exact cut_some b off n
            gi_wp2_with (gi_at_builtin; refine wpListIn_append_own _ rfl (.tmp 35) (.tmp 38) 108 rfl X.heap.size 112 i0 (.agg #[.bool false, .nilFunc, .bool false]) 3 24 Tryd.underlying108 hi hz0 hz1 hz2 rfl (by decide) u5 ps.length _ rfl (hP2.own.alloc _) ⟨w2.heap.size, 0, none⟩ 1 1 [.bool false, .func (.func 74) #[] #[.pointer (some ⟨B1, 0, none⟩), .pointer (some ⟨B2, 0, none⟩)], .bool true] rfl rfl (World.news_of_block (cs := #[.bool false, .func (.func 74) #[] #[.pointer (some ⟨B1, 0, none⟩), .pointer (some ⟨B2, 0, none⟩)], .bool true]) (heap_alloc_new w2 _)) (by simp [Value.oneCell']) (by unfold maxLen; have := hP2.len; omega) (by have := hP2.len; omega) (by have := hP2.up; simp; omega) ?_; intro v' w3 hown' hgrow _; obtain ⟨hb3, hP3⟩ := hP2.step hpt (k := n) (by omega) (by omega) hpe hown' hgrow; have b3 := hb3.cell 0; have f3 := hb3.frozen 0; simp only [List.getElem?_toArray, List.getElem?_cons_zero] at b3; rw [hcc] at hP3; have HP3 := hid hP3; clear hP3 hown' hgrow hb3)
            gi_roundg (l'.drop n).length
            case measure => go_light; rw [List.length_drop]; omega
            case rel =>
              go_light
              exact ⟨l'.drop n, _, _, c' - n, rfl, HP3.out⟩
        | none =>
          unfold SetRes at hres
          rw [hs] at hres
          subst hres
          have hpe := HPO.out hs
          clear hs hP1 hB2 hcb HSE HPO
          gi_wp2_with fail
          refine ⟨trivial, ?_⟩
          refine (callsIn_wide.2 (is_one ch 42 _)).mono ?_
          rintro e w4 ⟨rfl, hB4⟩
          have hP4 := hP2.below hB4
          have hcb4 := hcb2.below hB4 hcb2.lt
          have m0 := hcb4.cell 0
          have m1 := hcb4.cell 1
          simp only [List.getElem?_toArray, List.getElem?_cons_zero, List.getElem?_cons_succ] at m0 m1
          clear hP2 hcb2 k0 k1 b2 hB4
          cases h42 : isC ch 42 with
          | true =>
            have hpe : pieces l' = .star :: pieces (l'.drop 1) := by rw [hpe, h42]; rfl
            have hP2 := hP4
            obtain ⟨w2, hw24⟩ : ∃ w2, w2 = w4 := ⟨_, rfl⟩
            rw [← hw24] at hP2 ⊢
            have hpt : PieceT w2 w.heap.size .nilFunc .star := rfl
            clear hw24 hP4 hcb4 m0 m1 h42
            by_cases hce : c' = 1
            · have hcc : cutA (some ⟨b, off, none⟩) c' 1 = some ⟨b, off, none⟩ := by unfold cutA; rw [if_pos hce]
              have hcz : c' - 1 = 0 := by omega
              gi_wp2_with (gi_at_builtin; refine wpListIn_append_own _ rfl (.tmp 46) (.tmp 48) 108 rfl X.heap.size 112 i0 (.agg #[.bool false, .nilFunc, .bool false]) 3 24 Tryd.underlying108 hi hz0 hz1 hz2 rfl (by decide) u5 ps.length _ rfl (hP2.own.alloc _) ⟨w2.heap.size, 0, none⟩ 1 1 [.bool true, .nilFunc, .bool true] rfl rfl (World.news_of_block (cs := #[.bool true, .nilFunc, .bool true]) (heap_alloc_new w2 _)) (by simp [Value.oneCell']) (by unfold maxLen; have := hP2.len; omega) (by have := hP2.len; omega) (by have := hP2.up; simp; omega) ?_; intro v' w3 hown' hgrow _; obtain ⟨hb3, hP3⟩ := hP2.step hpt (k := 1) (by omega) (by omega) hpe hown' hgrow; have b3 := hb3.cell 0; have f3 := hb3.frozen 0; simp only [List.getElem?_toArray, List.getElem?_cons_zero] at b3; rw [hcc, hcz] at hP3; have HP3 := hid hP3; clear hP3 hown' hgrow hb3)
              gi_roundg (l'.drop 1).length
              case measure => go_light; rw [List.length_drop]; omega
              case rel =>
                go_light
                exact ⟨l'.drop 1, _, _, 0, rfl, HP3.out⟩
            · have hcc : cutA (some ⟨b, off, none⟩) c' 1 = some ⟨b, off + 1 * 2, none⟩ := by
                unfold cutA
                rw [if_neg hce]
                exact cut_some b off 1
              gi_wp2_with (gi_at_builtin; refine wpListIn_append_own _ rfl (.tmp 46) (.tmp 48) 108 rfl X.heap.size 112 i0 (.agg #[.bool false, .nilFunc, .bool false]) 3 24 Tryd.underlying108 hi hz0 hz1 hz2 rfl (by decide) u5 ps.length _ rfl (hP2.own.alloc _) ⟨w2.heap.size, 0, none⟩ 1 1 [.bool true, .nilFunc, .bool true] rfl rfl (World.news_of_block (cs := #[.bool true, .nilFunc, .bool true]) (heap_alloc_new w2 _)) (by simp [Value.oneCell']) (by unfold maxLen; have := hP2.len; omega) (by have := hP2.len; omega) (by have := hP2.up; simp; omega) ?_; intro v' w3 hown' hgrow _; obtain ⟨hb3, hP3⟩ := hP2.step hpt (k := 1) (by omega) (by omega) hpe hown' hgrow; have b3 := hb3.cell 0; have f3 := hb3.frozen 0; simp only [List.getElem?_toArray, List.getElem?_cons_zero] at b3; rw [hcc] at hP3; have HP3 := hid hP3; clear hP3 hown' hgrow hb3)
              gi_roundg (l'.drop 1).length
              case measure => go_light; rw [List.length_drop]; omega
              case rel =>
                go_light
                exact ⟨l'.drop 1, _, _, c' - 1, rfl, HP3.out⟩
          | false =>
            gi_wp2_with fail
            refine ⟨trivial, ?_⟩
            refine (callsIn_wide.2 (is_one ch 63 _)).mono ?_
            rintro e w5 ⟨rfl, hB5⟩
            have hP2 := hP4.below hB5
            have hcb2 := hcb4.below hB5 hcb4.lt
            obtain ⟨w2, hw25⟩ : ∃ w2, w2 = w5 := ⟨_, rfl⟩
            rw [← hw25] at hP2 hcb2 ⊢
            clear hw25 hP4 hcb4 m0 m1 hB5
            cases h63 : isC ch 63 with
            | true =>
              have hpe : pieces l' = .any :: pieces (l'.drop 1) := by rw [hpe, h42, h63]; rfl
              have hpt : PieceT w2 w.heap.size (.func (.func 62) #[] #[]) .any := rfl
              clear h42 h63 hcb2
              by_cases hce : c' = 1
              · have hcc : cutA (some ⟨b, off, none⟩) c' 1 = some ⟨b, off, none⟩ := by unfold cutA; rw [if_pos hce]
                have hcz : c' - 1 = 0 := by omega
                gi_wp2_with (gi_at_builtin; refine wpListIn_append_own _ rfl (.tmp 53) (.tmp 55) 108 rfl X.heap.size 112 i0 (.agg #[.bool false, .nilFunc, .bool false]) 3 24 Tryd.underlying108 hi hz0 hz1 hz2 rfl (by decide) u5 ps.length _ rfl (hP2.own.alloc _) ⟨w2.heap.size, 0, none⟩ 1 1 [.bool false, .func (.func 62) #[] #[], .bool true] rfl rfl (World.news_of_block (cs := #[.bool false, .func (.func 62) #[] #[], .bool true]) (heap_alloc_new w2 _)) (by simp [Value.oneCell']) (by unfold maxLen; have := hP2.len; omega) (by have := hP2.len; omega) (by have := hP2.up; simp; omega) ?_; intro v' w3 hown' hgrow _; obtain ⟨hb3, hP3⟩ := hP2.step hpt (k := 1) (by omega) (by omega) hpe hown' hgrow; have b3 := hb3.cell 0; have f3 := hb3.frozen 0; simp only [List.getElem?_toArray, List.getElem?_cons_zero] at b3; rw [hcc, hcz] at hP3; have HP3 := hid hP3; clear hP3 hown' hgrow hb3)
                gi_roundg (l'.drop 1).length
                case measure => go_light; rw [List.length_drop]; omega
                case rel =>
                  go_light
                  exact ⟨l'.drop 1, _, _, 0, rfl, HP3.out⟩
              · have hcc : cutA (some ⟨b, off, none⟩) c' 1 = some ⟨b, off + 1 * 2, none⟩ := by
                  unfold cutA
                  rw [if_neg hce]
                  exact cut_some b off 1
                gi_wp2_with (gi_at_builtin; refine wpListIn_append_own _ rfl (.tmp 53) (.tmp 55) 108 rfl X.heap.size 112 i0 (.agg #[.bool false, .nilFunc, .bool false]) 3 24 Tryd.underlying108 hi hz0 hz1 hz2 rfl (by decide) u5 ps.length _ rfl (hP2.own.alloc _) ⟨w2.heap.size, 0, none⟩ 1 1 [.bool false, .func (.func 62) #[] #[], .bool true] rfl rfl (World.news_of_block (cs := #[.bool false, .func (.func 62) #[] #[], .bool true]) (heap_alloc_new w2 _)) (by simp [Value.oneCell']) (by unfold maxLen; have := hP2.len; omega) (by have := hP2.len; omega) (by have := hP2.up; simp; omega) ?_; intro v' w3 hown' hgrow _; obtain ⟨hb3, hP3⟩ := hP2.step hpt (k := 1) (by omega) (by omega) hpe hown' hgrow; have b3 := hb3.cell 0; have f3 := hb3.frozen 0; simp only [List.getElem?_toArray, List.getElem?_cons_zero] at b3; rw [hcc] at hP3; have HP3 := hid hP3; clear hP3 hown' hgrow hb3)
                gi_roundg (l'.drop 1).length
                case measure => go_light; rw [List.length_drop]; omega
                case rel =>
                  go_light
                  exact ⟨l'.drop 1, _, _, c' - 1, rfl, HP3.out⟩
            | false =>
              have hpe : pieces l' = .lit ch.1 :: pieces (l'.drop 1) := by rw [hpe, h42, h63]; rfl
              have hpt : PieceT w2 w.heap.size (.func (.func 63) #[] #[.pointer (some ⟨cb, 0, none⟩)]) (.lit ch.1) := ⟨cb, ch.2, rfl, by omega, hcb2⟩
              clear h42 h63 hcb2
              by_cases hce : c' = 1
              · have hcc : cutA (some ⟨b, off, none⟩) c' 1 = some ⟨b, off, none⟩ := by unfold cutA; rw [if_pos hce]
                have hcz : c' - 1 = 0 := by omega
                gi_wp2_with (gi_at_builtin; refine wpListIn_append_own _ rfl (.tmp 27) (.tmp 30) 108 rfl X.heap.size 112 i0 (.agg #[.bool false, .nilFunc, .bool false]) 3 24 Tryd.underlying108 hi hz0 hz1 hz2 rfl (by decide) u5 ps.length _ rfl (hP2.own.alloc _) ⟨w2.heap.size, 0, none⟩ 1 1 [.bool false, .func (.func 63) #[] #[.pointer (some ⟨cb, 0, none⟩)], .bool false] rfl rfl (World.news_of_block (cs := #[.bool false, .func (.func 63) #[] #[.pointer (some ⟨cb, 0, none⟩)], .bool false]) (heap_alloc_new w2 _)) (by simp [Value.oneCell']) (by unfold maxLen; have := hP2.len; omega) (by have := hP2.len; omega) (by have := hP2.up; simp; omega) ?_; intro v' w3 hown' hgrow _; obtain ⟨hb3, hP3⟩ := hP2.step hpt (k := 1) (by omega) (by omega) hpe hown' hgrow; have b3 := hb3.cell 0; have f3 := hb3.frozen 0; simp only [List.getElem?_toArray, List.getElem?_cons_zero] at b3; rw [hcc, hcz] at hP3; have HP3 := hid hP3; clear hP3 hown' hgrow hb3)
                gi_roundg (l'.drop 1).length
                case measure => go_light; rw [List.length_drop]; omega
                case rel =>
                  go_light
                  exact ⟨l'.drop 1, _, _, 0, rfl, HP3.out⟩
              · have hcc : cutA (some ⟨b, off, none⟩) c' 1 = some ⟨b, off + 1 * 2, none⟩ := by
                  unfold cutA
                  rw [if_neg hce]
                  exact cut_some b off 1
                gi_wp2_with (gi_at_builtin; refine wpListIn_append_own _ rfl (.tmp 27) (.tmp 30) 108 rfl X.heap.size 112 i0 (.agg #[.bool false, .nilFunc, .bool false]) 3 24 Tryd.underlying108 hi hz0 hz1 hz2 rfl (by decide) u5 ps.length _ rfl (hP2.own.alloc _) ⟨w2.heap.size, 0, none⟩ 1 1 [.bool false, .func (.func 63) #[] #[.pointer (some ⟨cb, 0, none⟩)], .bool false] rfl rfl (World.news_of_block (cs := #[.bool false, .func (.func 63) #[] #[.pointer (some ⟨cb, 0, none⟩)], .bool false]) (heap_alloc_new w2 _)) (by simp [Value.oneCell']) (by unfold maxLen; have := hP2.len; omega) (by have := hP2.len; omega) (by have := hP2.up; simp; omega) ?_; intro v' w3 hown' hgrow _; obtain ⟨hb3, hP3⟩ := hP2.step hpt (k := 1) (by omega) (by omega) hpe hown' hgrow; have b3 := hb3.cell 0; have f3 := hb3.frozen 0; simp only [List.getElem?_toArray, List.getElem?_cons_zero] at b3; rw [hcc] at hP3; have HP3 := hid hP3; clear hP3 hown' hgrow hb3)
                gi_roundg (l'.drop 1).length
                case measure => go_light; rw [List.length_drop]; omega
                case rel =>
                  go_light
                  exact ⟨l'.drop 1, _, _, c' - 1, rfl, HP3.out⟩
  case stop =>
    rintro D c' pre X hD _ h _
    exact h.elim
end Go.Proofs.YtklihdlfbhgpeaaDoor
