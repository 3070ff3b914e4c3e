/-
  The walk of the reference's Sum.
-/
import Derived.Test.YthacopmahjcmaaaS8
import Derived.Test.YthacopmahjcmaaaArr2
import Derived.Deep.AppendLies
import Derived.Deep.RegionHeld3
namespace Go.Proofs.Ythacopmahjcmaaa
open Go.RowKit
set_option linter.unusedVariables false

theorem cell_more {w : World} {p : Addr} {v : Value} (o : Obj) (h : w.cell? p = some v) : (w.alloc o).cell? p = some v := by
  have hb : p.block < w.heap.size := by
    rcases Nat.lt_or_ge p.block w.heap.size with hlt | hge
    · exact hlt
    · simp [World.cell?, Array.getElem?_eq_none hge] at h
  rw [World.cell?_of_block (Below.heap_alloc w o p.block hb)]
  exact h

theorem byte_word (x : UInt32) (n : Nat) : IntKind.u8.wrap ((x.toNat : Int) / ((2 ^ n : Nat) : Int)) = ((UInt8.ofNat (x.toNat / 2 ^ n)).toNat : Int) := by
  rw [← Int.natCast_ediv, IntKind.wrap_u8', UInt8.toNat_ofNat']
  omega
theorem byte_word0 (x : UInt32) : IntKind.u8.wrap (x.toNat : Int) = ((UInt8.ofNat x.toNat).toNat : Int) := by
  rw [IntKind.wrap_u8', UInt8.toNat_ofNat']
  omega
theorem rd_of_own {w : World} {base : Nat} {e : TypeId} {v : Value} {n : Nat} {xs : List Value} (h : w.ownsRow base e 1 v n xs) (g : Nat) (hg : w.heap.size ≤ g) : ∃ A c, v = .slice A n c ∧ Rd w g A n xs := by
  have hl : xs.length = n := by have := h.1; omega
  rcases h.2 with ⟨h1, h2⟩ | ⟨g', cap, cur, h1, h2, h3, _⟩
  · subst h2
    exact ⟨none, 0, h1, hl, fun hn => absurd hn (by omega)⟩
  · subst h1
    have hlt := (Array.getElem?_eq_some_iff.1 h3).1
    exact ⟨_, _, rfl, hl, fun _ => ⟨g', 0, rfl, by omega, hlt, fun j u hu => by
      have hj : j < n := by have := (List.getElem?_eq_some_iff.1 hu).1; omega
      rw [Nat.zero_add, h.cellAt j (by omega)]
      exact hu⟩⟩
theorem info5 : (Try.prog.info? 5).map (fun i => (i.zero, i.size, i.bytes)) = some (some (.int .u8 0), 1, 1) := by kernel_rfl
set_option maxRecDepth 100000 in
set_option maxHeartbeats 2000000 in
theorem refSum_any (l : List UInt8) (hl : l.length ≤ 1000000) (w : World) :
    Calls Try.prog 14 #[.string ⟨l.toArray⟩] w fun e w' => e = .returned (.string ⟨(sumL l).toArray⟩) ∧ Below w.heap.size w w' := by
  go_enter Try.func14, Try.ntmps14
  go_wp2_with fail
  refine (refPrimes_any _).mono ?_
  rintro e w0 ⟨v, rfl, hown, hB0⟩
  obtain ⟨g, cap, u, rfl, hbg, hgl, _, _⟩ := own_at hown (show 0 < 64 by omega)
  have hpr : Pr w0 g := fun i n hn => by
    have hl : i < P64.length := (List.getElem?_eq_some_iff.1 hn).1
    rw [hown.cellAt i (by have : P64.length = 64 := rfl; omega), pv_get _ i hl, (List.getElem?_eq_some_iff.1 hn).2]
  clear hown
  go_wp2_with fail
  generalize hW : ((w0.alloc _).alloc _) = W1
  have hH : Ws W1 w0.heap.size 42 (List.replicate 8 0) := by rw [← hW]; exact (At.new _ _ _).alloc _
  have hK : Ws W1 (w0.heap.size + 1) 44 (List.replicate 64 0) := by rw [← hW]; exact At.new' _ _ _ (by simp)
  have hC : Below w.heap.size w W1 := by rw [← hW]; exact (hB0.alloc hB0.size _).alloc (by have := hB0.size; simp; omega) _
  have hP : Pr W1 g := fun i n hn => by rw [← hW]; exact cell_more _ (cell_more _ (hpr i n hn))
  have hS := hB0.size
  clear hW hpr hB0
  obtain ⟨b, hb⟩ : ∃ b, b = w0.heap.size := ⟨_, rfl⟩
  rw [← hb] at hH hK hgl hS ⊢
  clear hb
  go_loopg [6] 64 (fun m v6 wx => ∃ i : Nat, m + i = 64 ∧ v6 = .int .i64 i ∧ Ws wx b 42 (fillL Hc 8 (min i 8)) ∧ Ws wx (b + 1) 44 (fillL Kc 64 i) ∧ Pr wx g ∧ Below w.heap.size w wx)
  case atStart => exact ⟨0, rfl, rfl, hH, hK, hP, hC⟩
  case round =>
    clear hH hK hP hC
    obtain ⟨i, hi, rfl, hH, hK, hP, hC⟩ := hrel
    have HI := hid hi
    by_cases hil : i < 64
    · obtain ⟨n, hn, hc, hPn⟩ := hP.at_ i hil
      have hKl : i < Kc.length := by rw [Kc_len]; exact hil
      have hcl := hK.has i (by rw [fillL_len _ _ _ Kc_len (by omega)]; exact hil)
      have hf := At.frozen hK i
      generalize (fillL Kc 64 i)[i]'(by rw [fillL_len _ _ _ Kc_len (by omega)]; exact hil) = cv at hcl
      have hst := Ws.store hK i Kc[i]
      rw [fillL_step Kc 64 i Kc_len hil, Kc_at i n hPn hKl] at hst
      have hroot := refCube_any n hn wr
      generalize hkc : (rootC fun x => cubeB x n) = kc at hroot hst
      have HR := hid hroot
      have HST := hid hst
      have i0 : (0 : Int) ≤ (i : Int) := by omega
      have i64 : (i : Int) < 64 := by omega
      clear hroot hst hkc hi
      by_cases hi8 : i < 8
      · have hHl : i < Hc.length := by rw [Hc_len]; exact hi8
        rw [show min i 8 = i by omega] at hH
        obtain ⟨w2, hw2⟩ : ∃ w2, w2 = wr.setCell ⟨b + 1, i, none⟩ (.int .u32 (kc.toNat : Int)) := ⟨_, rfl⟩
        have hH2 : Ws w2 b 42 (fillL Hc 8 i) := by rw [hw2]; exact At.far hH (by simp) _
        have hP2 : Pr w2 g := by rw [hw2]; exact hP.far (by simp; omega) _
        have hC2 : Below w.heap.size w w2 := by rw [hw2]; exact hC.setCell (p := ⟨b + 1, i, none⟩) (by simp; omega) _
        have hK2 : Ws w2 (b + 1) 44 (fillL Kc 64 (i + 1)) := by rw [hw2]; exact HST.out
        have hcl2 := hH2.has i (by rw [fillL_len _ _ _ Hc_len (by omega)]; exact hi8)
        have hf2 := At.frozen hH2 i
        generalize (fillL Hc 8 i)[i]'(by rw [fillL_len _ _ _ Hc_len (by omega)]; exact hi8) = cv2 at hcl2
        have hst2 := Ws.store hH2 i Hc[i]
        rw [fillL_step Hc 8 i Hc_len hi8, Hc_at i n hPn hHl] at hst2
        have hroot2 := refSquare_any n hn w2
        have hc2 := hP2 i n hPn
        generalize hkc2 : (rootC fun x => squareB x n) = hc0 at hroot2 hst2
        have HR2 := hid hroot2
        have HST2 := hid hst2
        have i8 : (i : Int) < 8 := by omega
        have HW2 := hid hw2
        clear hroot2 hst2 hkc2 hPn hw2
        go_wp2_with fail
        refine HR.out.mono ?_
        rintro e w' ⟨rfl, rfl⟩
        go_wp2_with fail
        rw [← HW2.out]
        refine HR2.out.mono ?_
        rintro e w' ⟨rfl, rfl⟩
        go_wp2_with fail
        go_roundg (gk - 1)
        case measure => go_light; have := HI.out; omega
        case rel =>
          go_light
          have := HI.out
          exact ⟨i + 1, by omega, int_cast (by omega), by rw [show min (i + 1) 8 = i + 1 by omega]; exact HST2.out, At.far hK2 (by simp) _, hP2.far (by simp; omega) _, hC2.setCell (p := ⟨b, i, none⟩) (by simp; omega) _⟩
      · have hi8' : ¬ (i : Int) < 8 := by omega
        rw [show min i 8 = 8 by omega] at hH
        clear hPn
        go_wp2_with fail
        refine HR.out.mono ?_
        rintro e w' ⟨rfl, rfl⟩
        go_wp2_with fail
        go_roundg (gk - 1)
        case measure => go_light; have := HI.out; omega
        case rel =>
          go_light
          have := HI.out
          exact ⟨i + 1, by omega, int_cast (by omega), by rw [show min (i + 1) 8 = 8 by omega]; exact At.far hH (by simp) _, HST.out, hP.far (by simp; omega) _, hC.setCell (p := ⟨b + 1, i, none⟩) (by simp; omega) _⟩
    · obtain rfl : i = 64 := by omega
      rw [fillL_end _ _ Kc_len] at hK
      rw [show min 64 8 = 8 from rfl, fillL_end _ _ Hc_len] at hH
      rw [show ((64 : Nat) : Int) = 64 from rfl]
      clear hi HI hil hP
      go_wp2_with fail
      refine (padded_any l hl _).mono ?_
      rintro e w3 ⟨rfl, hB3⟩
      have hbl : b < wr.heap.size := hH.lt
      have hH3 : Ws w3 b 42 Hc := At.below hH hB3 hH.lt
      have hK3 : Ws w3 (b + 1) 44 Kc := At.below hK hB3 hK.lt
      have hC3 : Below w.heap.size w w3 := hC.trans (hB3.mono hC.size)
      have hpl := padL_le l
      have hpm := blkN_mul l
      obtain ⟨p, hp⟩ : ∃ p, p = padL l := ⟨_, rfl⟩
      rw [← hp] at hpl hpm ⊢
      have HP := hid hp
      have HPM := hid hpm
      have hK64 := Kc_len
      obtain ⟨kc, hkc⟩ : ∃ kc, kc = Kc := ⟨_, rfl⟩
      rw [← hkc] at hK3 hK64
      have HKC := hid hkc
      have hH8 := Hc_len
      obtain ⟨h0, hh0⟩ : ∃ h0, h0 = Hc := ⟨_, rfl⟩
      rw [← hh0] at hH3 hH8
      have HH0 := hid hh0
      clear hH hK hC hB3 hp hpm hkc hh0
      have iH : (Try.prog.info? 42).map (·.size) = some 8 := by kernel_rfl
      have iK : (Try.prog.info? 44).map (·.size) = some 64 := by kernel_rfl
      have iK' : (Try.prog.info? 44).map (·.size) = some (wv kc).toArray.size := by rw [iK]; simp [wv_length, hK64]
      go_wp2_with fail
      go_loopg [8] (blkN l) (fun m v8 wx => ∃ k : Nat, m + k = blkN l ∧ v8 = .int .i64 ((64 * k : Nat) : Int) ∧ Ws wx b 42 (stepsF h0 p k) ∧ Ws wx (b + 1) 44 kc ∧ Below w.heap.size w wx)
      case atStart => exact ⟨0, by omega, rfl, hH3, hK3, hC3⟩
      case round =>
        clear hH3 hK3 hC3
        obtain ⟨k, hk, rfl, hH, hK, hC⟩ := hrel
        have HKk := hid hk
        have hsl : (stepsF h0 p k).length = 8 := by rw [stepsF_len]; exact hH8
        by_cases hkl : k < blkN l
        · have hin : 64 * k + 64 ≤ p.length := by have := HPM.out; omega
          have hbl64 := blkAt_len p k hin
          have iHs : (Try.prog.info? 42).map (·.size) = some (wv (stepsF h0 p k)).toArray.size := by rw [iH]; simp [wv_length, hsl]
          have hrb := refBlock_any (stepsF h0 p k) hsl (blkAt p k) hbl64
          have hnx : stepsF h0 p (k + 1) = blockF (stepsF h0 p k) (blkAt p k) := rfl
          rw [← hnx, ← HKC.out, show blkAt p k = List.take 64 (List.drop (64 * k) p) from rfl] at hrb
          have hsl2 : (stepsF h0 p (k + 1)).length = 8 := by rw [stepsF_len]; exact hH8
          generalize hs2 : stepsF h0 p (k + 1) = s2 at hrb hsl2
          generalize stepsF h0 p k = s1 at hrb hH hsl iHs
          have HRB := hid hrb
          have HNX := hid hs2
          have k0 : (0 : Int) ≤ ((64 * k : Nat) : Int) := by omega
          have k1 : ((64 * k : Nat) : Int) + 64 ≤ (p.length : Int) := by omega
          have k2 : ((64 * k : Nat) : Int) < (p.length : Int) := by omega
          have k4 : (0 : Int) ≤ ((64 * k : Nat) : Int) + 64 := by omega
          have k5 : ((64 * k : Nat) : Int) ≤ ((64 * k : Nat) : Int) + 64 := by omega
          have k3 : decide (64 * k < p.length) = true := by simp; omega
          have e1 : IntKind.i64.wrap (((64 * k : Nat) : Int) + 64) = ((64 * k : Nat) : Int) + 64 := IntWalk.i64_in _ (by omega)
          have n1 : (((64 * k : Nat) : Int) + 64).toNat = 64 * k + 64 := by omega
          clear hrb hnx hk hs2
          generalize hq : 64 * k = q at *
          have HQ := hid hq
          clear hq
          go_wp2_with fail
          refine wp_region_still_tail 7 (by kernel_rfl) (by kernel_rfl) ?_
          simp only [List.take_succ_cons, List.take_zero, List.drop_succ_cons, List.drop_zero]
          refine wpStill_load_row rfl 42 (.tmp 4) rfl b rfl 42 _ _ (At.drew hH) Try.underlying42 rfl iHs ?_
          repeat still_step
          refine wpStill_load_row rfl 44 (.tmp 5) rfl (b + 1) rfl 44 _ _ (At.drew hK) Try.underlying44 rfl iK' ?_
          refine wpStill_nil ?_
          change wpList _ _ _ _ _ wr.drew
          have hrow2 : (wv s1).toArray.size = (wv s2).toArray.size := by simp [wv_length, hsl, hsl2]
          have iH2 : (Try.prog.info? 42).map (·.size) = some (wv s2).toArray.size := by rw [iH]; simp [wv_length, hsl2]
          have HR2 := hid hrow2
          clear hrow2 e1 n1 k3 k4 k5 iHs iK'
          go_wp2_with fail
          refine (HRB.out _).mono ?_
          rintro e w4 ⟨rfl, hB4⟩
          have hH4 : Ws w4 b 42 s1 := At.below (At.drew hH) hB4 hH.lt
          have hK4 : Ws w4 (b + 1) 44 kc := At.below (At.drew hK) hB4 hK.lt
          have hC4 : Below w.heap.size w w4 := hC.drew.trans (hB4.mono hC.size)
          clear hH hK hC hB4
          go_wp2_with (refine wpList_store_row rfl 42 (.tmp 4) (.tmp 47) rfl b rfl _ rfl 42 _ hH4 iH2 HR2.out.symm (wv_one s2) ?_; intro w5 hH5 ho5 hz5)
          go_roundg (gk - 1)
          case measure => go_light; have := HKk.out; omega
          case rel =>
            go_light
            have := HKk.out
            exact ⟨k + 1, by omega, int_cast (by have := HQ.out; omega), by rw [HNX.out]; exact hH5, ho5.at_ hK4 (by omega), hC4.trans (ho5.below (by omega) hC4.size)⟩
        · obtain rfl : k = blkN l := by omega
          have hws : stepsF h0 p (blkN l) = stepsF Hc (padL l) (blkN l) := by rw [HH0.out, HP.out]
          have k3 : decide (64 * (blkN l : Int) < (p.length : Int)) = false := by have := HPM.out; simp; omega
          generalize hq : stepsF h0 p (blkN l) = ws at hH hsl hws
          have HWS := hid hws
          clear hk HKk hkl hq hws hK iK iK'
          obtain ⟨i0, hi, hz0, hz1, hz2⟩ := info_parts info5
          have hmk : ∀ W : World, (Instr.makeSlice 27 (.int .i64 0) (.int .i64 32)).run Try.prog W = .ok (.slice (some ⟨W.heap.size, 0, none⟩) 0 32) (W.alloc (.cells (List.replicate 32 (Value.int .u8 0)).toArray 5)) := fun _ => by kernel_rfl
          go_wp2_with fail
          clear hmk k3
          have hbl2 : b < wr.heap.size := hH.lt
          have hBw := At.new wr 5 (List.replicate 32 (Value.int .u8 0)).toArray
          have hWS := hC.size
          obtain ⟨B, hB⟩ : ∃ B, B = wr.heap.size := ⟨_, rfl⟩
          rw [← hB] at hbl2 hBw hWS ⊢
          clear hB
          go_loopg [9, 10] 8 (fun m v9 v10 wx => ∃ i : Nat, m + i = 8 ∧ v10 = .int .i64 i ∧ wx.ownsRow B 5 1 v9 (4 * i) (bv (outF (ws.take i))) ∧ Ws wx b 42 ws ∧ Below w.heap.size w wx ∧ B ≤ wx.heap.size)
          case atStart =>
            refine ⟨0, rfl, rfl, ?_, At.alloc hH _, hC.alloc hC.size _, Nat.le_of_lt (At.lt hBw)⟩
            exact ⟨rfl, .inr ⟨B, 32, _, rfl, Nat.le_refl _, hBw, by omega, by unfold maxLen; omega, by simp, by simp [outF, bv]⟩⟩
          case round =>
            clear hH hC hBw
            obtain ⟨i, hi', rfl, hown, hH, hC, hwl⟩ := hrel
            have HI := hid hi'
            by_cases hil : i < 8
            · have qx := hH.has i (by omega)
              have hsn := outF_snoc ws i (by omega)
              generalize ws[i]'(by omega) = x at qx hsn
              have hform : ∃ A c, u9 = .slice A (4 * i) c := by
                rcases hown.2 with ⟨h1, h2⟩ | ⟨g, cap, cur, h1, _⟩
                · exact ⟨none, 0, by rw [h1, h2]⟩
                · exact ⟨_, _, h1⟩
              obtain ⟨A, c, rfl⟩ := hform
              have b24 := byte_word x 24
              have b16 := byte_word x 16
              have b8 := byte_word x 8
              have b0 := byte_word0 x
              rw [show ((2 ^ 24 : Nat) : Int) = 16777216 from rfl] at b24
              rw [show ((2 ^ 16 : Nat) : Int) = 65536 from rfl] at b16
              rw [show ((2 ^ 8 : Nat) : Int) = 256 from rfl] at b8
              rw [wordBs] at hsn
              generalize UInt8.ofNat (x.toNat / 2 ^ 24) = y0 at b24 hsn
              generalize UInt8.ofNat (x.toNat / 2 ^ 16) = y1 at b16 hsn
              generalize UInt8.ofNat (x.toNat / 2 ^ 8) = y2 at b8 hsn
              generalize UInt8.ofNat x.toNat = y3 at b0 hsn
              have HSN := hid hsn
              have j0 : (0 : Int) ≤ (i : Int) := by omega
              have j8 : (i : Int) < 8 := by omega
              clear hsn hi'
              go_wp2_with fail
              have hne : some b ≠ (Value.slice A (4 * i) c).ownBlock := fun e => by have := (hown.lt b e.symm).1; omega
              have hbw := hH.lt
              have hnw := World.news_of_block (cs := (bv [y0, y1, y2, y3]).toArray) (t := 5) (fr := (0, 0)) (heap_alloc_new wr _)
              have HNW := hid hnw
              clear hnw
              go_region_held3 (fun w' => w'.cell? ⟨b, i, none⟩ = some (.int .u32 (x.toNat : Int)))
                (first | go_keep | (rw [hgrow.cell_far _ (by simp; omega) hne]; assumption))
                ((refine step_append_lies _ (by rfl) _ _ _ (by rfl) B 5 i0 _ 1 1 Try.underlying27 hi hz0 hz1 hz2 rfl (by omega) (.slice A (4 * i) c) (4 * i) _ (by rfl) ((hown.alloc _).drew) ⟨wr.heap.size, 0, none⟩ 4 4 (bv [y0, y1, y2, y3]) (by rfl) (by rfl) HNW.out (bv_one _) (by omega) (by unfold maxLen; omega) (by omega) (by simp; omega) (wr.heap.size + 1) (by simp) ?_; intro gg cap2 w1 hown1 hgrow hat hlt))
              rename_i hHeld
              clear hHeld
              go_wp2_with fail
              go_roundg (gk - 1)
              case measure => go_light; have := HI.out; omega
              case rel =>
                go_light
                have := HI.out
                refine ⟨i + 1, by omega, int_cast (by omega), ?_, ?_, ?_, ?_⟩
                · rw [HSN.out, bv_append, show 4 * (i + 1) = 4 * i + 4 by omega]
                  exact hown1
                · exact At.grown (At.drew (At.alloc hH _)) hgrow hne
                · exact (hC.alloc hC.size _).drew.grown hgrow (by have := hC.size; simp; omega) (fun k hk => by have := (hown.lt k hk).1; omega)
                · have := hgrow.size; simp at this; omega
            · obtain rfl : i = 8 := by omega
              rw [List.take_of_length_le (by omega)] at hown
              have hout : outF ws = sumL l := by rw [HWS.out, sumL]
              have hol : (outF ws).length = 32 := by rw [outF_len, hsl]
              rw [hout] at hown
              rw [hout] at hol
              obtain ⟨A, c, rfl, hrd⟩ := rd_of_own hown (wr.heap.size + 1) (by omega)
              clear hi' HI hil hown hout
              go_wp2_with (refine wpList_string_of rfl (.tmp 75) 27 9 5 rfl Try.underlying27 Try.underlying5 Try.underlying9 (wr.heap.size + 1) _ _ c rfl (sumL l) hrd ?_)
              go_ret
              exact ⟨rfl, hC⟩
end Go.Proofs.Ythacopmahjcmaaa
