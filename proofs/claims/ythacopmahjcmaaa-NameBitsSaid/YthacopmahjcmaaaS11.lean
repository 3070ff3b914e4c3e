/-
  The walk of the program's Sum.
-/
import Derived.Test.YthacopmahjcmaaaS10
import Derived.Test.YthacopmahjcmaaaArrIn
namespace Go.Proofs.Ythacopmahjcmaaa
open Go.RowKit Go.Shelf
set_option linter.unusedVariables false
attribute [local go_sem] Oper.semAt_some

/-- The words behind some blocks. -/
def foldBlks (h : List UInt32) (xs : List Blk) : List UInt32 := xs.foldl (fun h x => blockF h x.bs) h
theorem foldBlks_snoc (h : List UInt32) (xs : List Blk) (x : Blk) : foldBlks h (xs ++ [x]) = blockF (foldBlks h xs) x.bs := by simp [foldBlks]
theorem foldBlks_eq (h : List UInt32) (xs : List Blk) : foldBlks h xs = (xs.map Blk.bs).foldl blockF h := by rw [foldBlks, List.foldl_map]
theorem steps_fold (h : List UInt32) (p : List UInt8) : ∀ k, ((List.range k).map (blkAt p)).foldl blockF h = stepsF h p k
  | 0 => rfl
  | k + 1 => by rw [List.range_succ, List.map_append, List.foldl_append, steps_fold h p k]; rfl
theorem foldBlks_len (h : List UInt32) (xs : List Blk) : (foldBlks h xs).length = h.length := by
  induction xs generalizing h with
  | nil => rfl
  | cons x xs ih => exact (ih _).trans (blockF_len h x.bs)

theorem info41 : (Try.prog.info? 41).map (·.size) = some 1 := by kernel_rfl
theorem run_index_word (ws : List UInt32) (hl : ws.length = 8) (i : Nat) (hi : i < 8) (Y : World) :
    (Instr.index 43 (.agg (wv ws).toArray) (.int .i64 (i : Int))).run Try.prog Y = .ok (.int .u32 ((ws[i]'(by omega)).toNat : Int)) Y := by
  have h41 := info41
  have hw := wv_get ws i (by omega)
  cases hq : Try.prog.info? 41 with
  | none => simp [hq] at h41
  | some d =>
    have hd : d.size = 1 := by simpa [hq] using h41
    simp [Instr.index, run_underlying Try.underlying43, asIntOf, hi, go_sem, sizeOf, typeInfo, hq, hd, hw]
set_option maxRecDepth 100000 in
set_option maxHeartbeats 400000 in
theorem blocks_any (l : List UInt8) (w : World) :
    Calls Try.prog 29 #[.string ⟨l.toArray⟩] w fun e w' => e = .returned (.func (.func 52) #[] #[.pointer (some ⟨w.heap.size, 0, none⟩)]) ∧ w' = w.alloc (.cells #[.string ⟨l.toArray⟩] 9) := by
  go_enter Try.func29, Try.ntmps29
  go_wp2
  go_ret
  exact ⟨rfl, rfl⟩

set_option maxRecDepth 100000 in
set_option maxHeartbeats 2000000 in
theorem sum_any (l : List UInt8) (hl : l.length ≤ 1000000) (w : World) :
    Calls Try.prog 13 #[.string ⟨l.toArray⟩] w fun e w' => e = .returned (.string ⟨(sumL l).toArray⟩) ∧ Below w.heap.size w w' := by
  have iH : (Try.prog.info? 43).map (·.size) = some 8 := by kernel_rfl
  have iK : (Try.prog.info? 44).map (·.size) = some 64 := by kernel_rfl
  have hK64 := Kc_len
  have hH8 := Hc_len
  obtain ⟨kc, hkc⟩ : ∃ kc, kc = Kc := ⟨_, rfl⟩
  obtain ⟨h0, hh0⟩ : ∃ h0, h0 = Hc := ⟨_, rfl⟩
  rw [← hkc] at hK64
  rw [← hh0] at hH8
  have hco := constants_any
  rw [← hkc, ← hh0] at hco
  have HCO := hid hco
  have HKC := hid hkc
  have HH0 := hid hh0
  have iK' : (Try.prog.info? 44).map (·.size) = some (wv kc).toArray.size := by rw [iK]; simp [wv_length, hK64]
  have iH' : (Try.prog.info? 43).map (·.size) = some (wv h0).toArray.size := by rw [iH]; simp [wv_length, hH8]
  have sK : (wv kc).toArray.size = (wv (List.replicate 64 0)).toArray.size := by simp [wv_length, hK64]
  have sH : (wv h0).toArray.size = (wv (List.replicate 8 0)).toArray.size := by simp [wv_length, hH8]
  have HSK := hid sK
  have HSH := hid sH
  clear hco hkc hh0 sK sH
  refine (callsIn_wide (n := 3)).1 ?_
  refine callsIn_of_wp_marks Try.func13 rfl trivial ?_ rfl
  simp only [Try.ntmps13, List.size_toArray, List.length_cons, List.length_nil, Nat.reduceAdd, Nat.reduceSub, Array.replicate_succ, Array.replicate_zero, List.push_toArray, List.append_toArray, List.nil_append, List.cons_append]
  gi_wp2_with (first
    | (refine wpListIn_store_row rfl 43 (.tmp 3) (.tmp 11) rfl w1.heap.size rfl _ rfl 43 (wv (List.replicate 8 0)).toArray ((At.new w1 43 _).alloc _) iH' HSH.out (wv_one h0) ?_; intro w2 hH2 ho2 hz2)
    | (refine wpListIn_store_row rfl 44 (.tmp 4) (.tmp 12) rfl (w1.heap.size + 1) rfl _ rfl 44 (wv (List.replicate 64 0)).toArray (ho2.at_ (At.new' _ 44 _ (by simp)) (by omega)) iK' HSK.out (wv_one kc) ?_; intro w3 hK3 ho3 hz3)
    | (refine ⟨trivial, ?_⟩; gi_at_call 28; refine (callsIn_wide.2 (HCO.out _)).mono ?_; rintro e w1 ⟨rfl, hB1⟩)
    | (refine ⟨trivial, ?_⟩; gi_at_call 29; refine (callsIn_wide.2 (blocks_any _ _)).mono ?_; rintro e w4 ⟨rfl, rfl⟩))
  have hz : w3.heap.size = w1.heap.size + 2 := by rw [hz3, hz2]; simp
  have hHs : Ws w3 w1.heap.size 43 h0 := ho3.at_ hH2 (by omega)
  have hKs : Ws w3 (w1.heap.size + 1) 44 kc := hK3
  have hC3 : Below w.heap.size w w3 := by
    refine Below.trans ?_ (ho3.below (by have := hB1.size; omega) (by rw [hz2]; have := hB1.size; simp; omega))
    refine Below.trans ?_ (ho2.below hB1.size (by have := hB1.size; simp; omega))
    exact (hB1.alloc hB1.size _).alloc (by have := hB1.size; simp; omega) _
  have hbw := hB1.size
  clear ho2 ho3 hz2 hz3 hH2 hK3 hB1
  obtain ⟨b, hb⟩ : ∃ b, b = w1.heap.size := ⟨_, rfl⟩
  rw [← hb] at hz hHs hKs hbw ⊢
  clear hb
  obtain ⟨W, hW⟩ : ∃ W, W = w3.alloc (.cells #[.string ⟨l.toArray⟩] 9) := ⟨_, rfl⟩
  rw [← hW]
  have hWz : W.heap.size = w3.heap.size + 1 := by rw [hW]; simp
  have hWs : W.cell? ⟨b + 1 + 1, 0, none⟩ = some (.string ⟨l.toArray⟩) := by rw [hW]; exact (At.new' _ _ _ (by omega)).cell 0
  have hHw : Ws W b 43 h0 := by rw [hW]; exact At.alloc hHs _
  have hKw : Ws W (b + 1) 44 kc := by rw [hW]; exact At.alloc hKs _
  have hCw : Below w.heap.size w W := by rw [hW]; exact hC3.alloc hC3.size _
  have HZ := hid (And.intro hz hWz)
  clear hW hHs hKs hC3
  refine wpIn_rangeFunc_mem rfl (by omega) (gf := 52) (lb := #[.pointer (some ⟨b + 1 + 1, 0, none⟩)]) rfl trivial (enters_of Try.func52 (by kernel_rfl) rfl) (encs := Blk.enc) (fun _ => rfl)
    (fun x X => x.Mem (W.heap.size + 2) X) (fun x W1 W2 h hs => h.same hs) (S := AllBlks l) (N := blkN l) ?seq
    (fun pre X => Ws X b 43 (foldBlks h0 pre) ∧ Ws X (b + 1) 44 kc ∧ Below w.heap.size w X) ?keep ⟨hHw, hKw, hCw⟩
    (fun x => { tmps := #[.string ⟨l.toArray⟩, undef, .string ⟨#[]⟩, .pointer (some ⟨b, 0, none⟩), .pointer (some ⟨b + 1, 0, none⟩), .slice (some ⟨x.g, x.off, none⟩) 64 x.cap, undef, undef, undef,
      .tuple #[.agg (wv h0).toArray, .agg (wv kc).toArray], .tuple #[.agg (wv h0).toArray, .agg (wv kc).toArray], .agg (wv h0).toArray, .agg (wv kc).toArray, .string ⟨l.toArray⟩, .func (.func 52) #[] #[.pointer (some ⟨b + 1 + 1, 0, none⟩)],
      .slice (some ⟨x.g, x.off, none⟩) 64 x.cap, undef, undef, undef, undef, undef, undef, undef, undef, undef, undef, undef, undef, undef, undef, undef, undef, undef, undef, undef, undef, undef, undef, undef, undef], defers := [] }) ?assign ?body ?done
  case seq =>
    intro l' J X hbX hzX hJ hY hJ0
    have hcX : X.cell? ⟨b + 1 + 1, 0, none⟩ = some (.string ⟨l.toArray⟩) := (hbX.cell (p := ⟨b + 1 + 1, 0, none⟩) (by have := HZ.out; simp; omega)).trans hWs
    rw [← hzX] at hJ hY
    exact blocks1_in Fence.wide 2 trivial rfl (by omega) l' (b + 1 + 1) l hl J X hcX (by have := HZ.out; omega) hJ hY hJ0
  case keep =>
    rintro pre W1 W2 ⟨h1, h2, h3⟩ hbb
    have := HZ.out
    exact ⟨At.below h1 hbb (by omega), At.below h2 hbb (by omega), h3.trans (hbb.mono (by omega))⟩
  case assign =>
    rintro l' ⟨xg, xo, xc, xb⟩ X K hK
    simp only [Blk.enc]
    gi_wp2
    exact hK
  case body =>
    rintro l' pre x X ⟨hH, hK, hC⟩ hlen hm
    obtain ⟨m1, m2, m3, m4⟩ := hm
    have hfl : (foldBlks h0 pre).length = 8 := by rw [foldBlks_len]; exact hH8
    have hsn := foldBlks_snoc h0 pre x
    have iF : (Try.prog.info? 43).map (·.size) = some (wv (foldBlks h0 pre)).toArray.size := by rw [iH]; simp [wv_length, hfl]
    have hbl := fun Y (hy : Below X.heap.size X Y) (hk : Ws Y (b + 1) 44 kc) => block_any (foldBlks h0 pre) hfl x.bs m1 x.g x.off x.cap (b + 1) Y (fun j u hu => (hy.cell (p := ⟨x.g, x.off + j, none⟩) m3).trans (m4 j u hu)) (Nat.lt_of_lt_of_le m3 hy.size) (HKC.out ▸ hk)
    rw [← hsn] at hbl
    have hfl2 : (foldBlks h0 (pre ++ [x])).length = 8 := by rw [foldBlks_len]; exact hH8
    have HSN := hid hsn
    generalize foldBlks h0 (pre ++ [x]) = f2 at hbl hfl2 ⊢
    generalize foldBlks h0 pre = f1 at hH hfl iF hbl
    have iF2 : (Try.prog.info? 43).map (·.size) = some (wv f2).toArray.size := by rw [iH]; simp [wv_length, hfl2]
    have sF : (wv f2).toArray.size = (wv f1).toArray.size := by simp [wv_length, hfl2, hfl]
    have HSF := hid sF
    have HBL := hid hbl
    clear hsn hbl sF m4 HSN
    obtain ⟨xg, xo, xc, xb⟩ := x
    simp only at m1 m2 m3 HBL ⊢
    gi_wp2_with (first
      | (refine wpListIn_load_row rfl 43 (.tmp 3) rfl b rfl 43 _ _ hH Try.underlying43 rfl iF ?_)
      | (refine wpListIn_store_row rfl 43 (.tmp 3) (.tmp 18) rfl b rfl _ rfl 43 _ (At.below hH hB4 hH.lt) iF2 HSF.out (wv_one f2) ?_; intro w5 hH5 ho5 hz5)
      | (refine ⟨trivial, ?_⟩; gi_at_call 30; refine (CallsIn.inRound l' (callsIn_wide.2 (HBL.out X (Below.refl _ _) hK))).mono ?_; rintro e w4 ⟨rfl, hB4⟩))
    exact ⟨(Same.of_below hB4).trans (Same.of_only ho5 (by omega)), hH5, ho5.at_ (At.below hK hB4 hK.lt) (by omega), (hC.trans (hB4.mono hC.size)).trans (ho5.below (by omega) (by have := hC.size; have := hB4.size; omega))⟩
  case done =>
    rintro D xs X hD hS ⟨hH, hK, hC⟩ hdf
    obtain ⟨i0, hi, hz0, hz1, hz2⟩ := info_parts info5
    have hws : foldBlks h0 xs = stepsF Hc (padL l) (blkN l) := by rw [foldBlks_eq, hS, steps_fold, HH0.out]
    have hwl : (foldBlks h0 xs).length = 8 := by rw [foldBlks_len]; exact hH8
    generalize foldBlks h0 xs = ws at hws hwl hH
    have iF : (Try.prog.info? 43).map (·.size) = some (wv ws).toArray.size := by rw [iH]; simp [wv_length, hwl]
    have HWS := hid hws
    have hDl : D < X.heap.size := (Array.getElem?_eq_some_iff.1 hdf).1
    have hDw : w.heap.size ≤ D := by have := HZ.out; omega
    clear hws hHw hKw hCw hWs hS hz hWz hD HZ hK
    gi_wp2_with (first
      | (refine wpListIn_load_row rfl 43 (.tmp 3) rfl b rfl 43 _ _ hH Try.underlying43 rfl iF ?_))
    have hcX := hC.size
    gi_loopg [6, 20] 8 (fun m v6 v20 wx => ∃ i : Nat, m + i = 8 ∧ v20 = .int .i64 i ∧ wx.ownsRow X.heap.size 5 1 v6 (4 * i) (bv (outF (ws.take i))) ∧ Below w.heap.size w wx ∧ X.heap.size ≤ wx.heap.size ∧ wx.heap[D]? = some (.deferred (some [])))
    case atStart => exact ⟨0, rfl, rfl, World.ownsRow_nil _ _ _ _, hC, Nat.le_refl _, hdf⟩
    case round =>
      clear hC hdf hH
      obtain ⟨i, hi', rfl, hown, hC, hXs, hdf⟩ := hrel
      have HI := hid hi'
      by_cases hil : i < 8
      · have hsn := outF_snoc ws i (by omega)
        have hix : ∀ Y : World, (Instr.index 43 (.agg (wv ws).toArray) (.int .i64 (i : Int))).run Try.prog Y = .ok (.int .u32 ((ws[i]'(by omega)).toNat : Int)) Y := fun Y => run_index_word ws hwl i hil Y
        generalize ws[i]'(by omega) = x at hsn hix
        have b24 := byte_word x 24
        have b16 := byte_word x 16
        have b8 := byte_word x 8
        have b0 := byte_word0 x
        rw [show ((2 ^ 24 : Nat) : Int) = 16777216 from rfl] at b24
        rw [show ((2 ^ 16 : Nat) : Int) = 65536 from rfl] at b16
        rw [show ((2 ^ 8 : Nat) : Int) = 256 from rfl] at b8
        rw [wordBs] at hsn
        generalize UInt8.ofNat (x.toNat / 2 ^ 24) = y0 at b24 hsn
        generalize UInt8.ofNat (x.toNat / 2 ^ 16) = y1 at b16 hsn
        generalize UInt8.ofNat (x.toNat / 2 ^ 8) = y2 at b8 hsn
        generalize UInt8.ofNat x.toNat = y3 at b0 hsn
        have HSN := hid hsn
        have j0 : (0 : Int) ≤ (i : Int) := by omega
        have j8 : (i : Int) < 8 := by omega
        have hform : ∃ A c, u6 = .slice A (4 * i) c := by
          rcases hown.2 with ⟨h1, h2⟩ | ⟨g, cap, cur, h1, _⟩
          · exact ⟨none, 0, by rw [h1, h2]⟩
          · exact ⟨_, _, h1⟩
        obtain ⟨A, c, rfl⟩ := hform
        have hnw := World.news_of_block (cs := (bv [y0, y1, y2, y3]).toArray) (t := 5) (fr := (0, 0)) (heap_alloc_new wr _)
        have HNW := hid hnw
        clear hsn hi' hnw
        gi_wp2_with (gi_at_builtin; refine wpListIn_append_own _ rfl (.tmp 23) (.tmp 35) 27 rfl X.heap.size 5 i0 (.int .u8 0) 1 1 Try.underlying27 hi hz0 hz1 hz2 rfl (by decide) (.slice A (4 * i) c) (4 * i) _ rfl (hown.alloc _) ⟨wr.heap.size, 0, none⟩ 4 4 (bv [y0, y1, y2, y3]) rfl rfl HNW.out (bv_one _) (by unfold maxLen; omega) (by omega) (by simp; omega) ?_; intro v' w1 hown1 hgrow _)
        gi_roundg (gk - 1)
        case measure => go_light; have := HI.out; omega
        case rel =>
          go_light
          have := HI.out
          refine ⟨i + 1, by omega, int_cast (by omega), ?_, ?_, ?_, ?_⟩
          · rw [HSN.out, bv_append, show 4 * (i + 1) = 4 * i + 4 by omega]
            exact hown1
          · exact (hC.alloc hC.size _).grown hgrow (by have := hC.size; simp; omega) (fun k hk => by have := (hown.lt k hk).1; omega)
          · have := hgrow.size; simp at this; omega
          · exact (hgrow.block D (by simp; omega) (fun e => by have := (hown.lt D e.symm).1; omega)).trans ((Below.heap_alloc wr _ D (by omega)).trans hdf)
      · obtain rfl : i = 8 := by omega
        rw [List.take_of_length_le (by omega)] at hown
        have hout : outF ws = sumL l := by rw [HWS.out, sumL]
        rw [hout] at hown
        obtain ⟨A, c, rfl, hrd⟩ := rd_of_own hown (wr.heap.size + 1) (by omega)
        clear hi' HI hil hown hout
        gi_wp2_with (refine wpListIn_string_of rfl (.tmp 38) 27 9 5 rfl Try.underlying27 Try.underlying5 Try.underlying9 (wr.heap.size + 1) _ _ c rfl (sumL l) hrd ?_)
        refine ⟨by simp, .inl ⟨_, _, rfl, run_takeDeferred hdf, ?_⟩⟩
        exact ⟨_, results_tmp rfl _ _ _, rfl, hC.trans (below_putObj _ hDw)⟩
end Go.Proofs.Ythacopmahjcmaaa
