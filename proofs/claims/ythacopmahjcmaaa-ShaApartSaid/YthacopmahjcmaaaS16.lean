/-
  The walk of ShaApart.
-/
import Derived.Test.YthacopmahjcmaaaS13
import Derived.Deep.AppendLies
import Derived.Deep.RegionHeld3
namespace Go.Proofs.Ythacopmahjcmaaa
open Go.RowKit
set_option linter.unusedVariables false

/-- The slice reads as these texts. -/
def Txts (w : World) (A : Option Addr) (len : Nat) (ts : List (List UInt8)) : Prop :=
  ts.length = len ∧ (0 < len → ∃ b off, A = some ⟨b, off, none⟩ ∧ b < w.heap.size ∧ ∀ i, i < len → w.cell? ⟨b, off + i, none⟩ = some (.string ⟨(ts.getD i []).toArray⟩))
/-- The sums of the first 200 bytes. -/
def sums (ts : List (List UInt8)) (i : Nat) : List Value := (List.range i).map fun j => Value.string ⟨(sumL ((ts.getD j []).take 200)).toArray⟩
theorem sums_succ (ts : List (List UInt8)) (i : Nat) : sums ts (i + 1) = sums ts i ++ [Value.string ⟨(sumL ((ts.getD i []).take 200)).toArray⟩] := by simp [sums, List.range_succ]
theorem sums_len (ts : List (List UInt8)) (i : Nat) : (sums ts i).length = i := by simp [sums]
theorem sums_get (ts : List (List UInt8)) (n i : Nat) (h : i < n) : (sums ts n)[i]? = some (.string ⟨(sumL ((ts.getD i []).take 200)).toArray⟩) := by simp [sums, h]
theorem info9 : (Try.prog.info? 9).map (fun i => (i.zero, i.size, i.bytes)) = some (some (.string ⟨#[]⟩), 1, 16) := by kernel_rfl

theorem news_str (w : World) (t : TypeId) (v : Value) : ∀ j u, [v][j]? = some u → (w.alloc (.cells #[v] t)).cell? ((⟨w.heap.size, 0, none⟩ : Addr).add j) = some u :=
  World.news_of_block (cs := #[v]) (heap_alloc_new w _)

theorem run_slice_all {P : Program} (t : TypeId) (ht : P.underlying t = some .string) (l : List UInt8) (W : World) :
    (Instr.slice t (.string ⟨l.toArray⟩) none (some (.int .i64 (l.length : Int))) none).run P W = .ok (.string ⟨l.toArray⟩) W := by
  have hsz : (ByteArray.mk l.toArray).size = l.length := by simp [ByteArray.size]
  have hb : (Instr.sliceBound (.int .i64 (l.length : Int)) l.length .sliceAlen).run P W = .ok l.length W := by
    simp [Instr.sliceBound, asIntOf, go_sem]
  unfold Instr.slice
  simp only [Sem.run_bind, run_underlying ht, Result.andThen_ok, hsz]
  simp [Instr.sliceBounds, hb, go_sem]
theorem own_below {w w' : World} {base : Nat} {e : TypeId} {size : Nat} {v : Value} {n : Nat} {xs : List Value} (h : w.ownsRow base e size v n xs) (hb : Below w.heap.size w w') : w'.ownsRow base e size v n xs := by
  refine ⟨h.1, ?_⟩
  rcases h.2 with h1 | ⟨g, cap, cur, h1, h2, h3, h4⟩
  · exact .inl h1
  · exact .inr ⟨g, cap, cur, h1, h2, (hb.block g (Array.getElem?_eq_some_iff.1 h3).1).trans h3, h4⟩

set_option maxRecDepth 100000 in
set_option maxHeartbeats 2000000 in
theorem shaApart_walk (A : Option Addr) (len cap : Nat) (ts : List (List UInt8)) (w : World) (hT : Txts w A len ts) (hlen : len ≤ maxLen) :
    Calls Try.prog 6 #[.slice A len cap] w fun e w' => e = .returned (.bool true) ∧ Below w.heap.size w w' := by
  obtain ⟨i0, hi, hz0, hz1, hz2⟩ := info_parts info9
  unfold maxLen at hlen
  go_enter Try.func6, Try.ntmps6
  go_wp2_with fail
  refine (works_any _).mono ?_
  rintro e w1 ⟨rfl, hB1⟩
  go_wp2_with fail
  have hw1 := hB1.size
  go_loopg [3, 4] (min len 10) (fun m v3 v4 wx => ∃ i : Nat, m + i = min len 10 ∧ v4 = .int .i64 i ∧ wx.ownsRow w1.heap.size 9 1 v3 i (sums ts i) ∧ Below w.heap.size w wx ∧ w1.heap.size ≤ wx.heap.size)
  case atStart => exact ⟨0, by omega, rfl, World.ownsRow_nil _ _ _ _, hB1, Nat.le_refl _⟩
  case round =>
    clear hB1
    obtain ⟨i, hm, rfl, hown, hB, hws⟩ := hrel
    have HM := hid hm
    by_cases hlt : i < min len 10
    · obtain ⟨b, off, rfl, hbl, hcells⟩ := hT.2 (by omega)
      have hc0 := hcells i (by omega)
      have hc : wr.cell? ⟨b, off + i, none⟩ = some (.string ⟨(ts.getD i []).toArray⟩) := (hB.cell (p := ⟨b, off + i, none⟩) hbl).trans hc0
      have hsu := sums_succ ts i
      generalize ts.getD i [] = l at hc hsu
      have hform : ∃ A' c', u3 = .slice A' i c' := by
        rcases hown.2 with ⟨h1, h2⟩ | ⟨g, cp, cur, h1, _⟩
        · exact ⟨none, 0, by rw [h1, h2]⟩
        · exact ⟨_, _, h1⟩
      obtain ⟨A', c', rfl⟩ := hform
      have hsum := fun W => sum_any (l.take 200) (by simp; omega) W
      generalize hsq : sumL (l.take 200) = sq at hsum hsu
      have HSU := hid hsu
      have HSUM := hid hsum
      have hbw : b < w1.heap.size := by omega
      have hne : some b ≠ (Value.slice A' i c').ownBlock := fun e => by have := (hown.lt b e.symm).1; omega
      have j0 : (0 : Int) ≤ (i : Int) := by omega
      have j1 : (i : Int) < (len : Int) := by omega
      have j10 : (i : Int) < 10 := by omega
      have hbr : b < wr.heap.size := by omega
      clear hc0 hcells hsu hsum hm hsq
      by_cases h2 : 200 < l.length
      · have h2i : (200 : Int) < (l.length : Int) := by omega
        have h2m : min (l.length : Int) 200 = 200 := by omega
        have h2n : ¬ (l.length : Int) < 200 := by omega
        go_wp2_with fail
        go_region_held3 (fun w' => w'.cell? ⟨b, off + i, none⟩ = some (.string ⟨l.toArray⟩))
          (first | go_keep | (rw [hgrow.cell_far _ (by have := hB2.size; simp at this ⊢; omega) hne]; assumption) | (rw [hB2.cell (p := ⟨b, off + i, none⟩) (by simp; omega)]; assumption))
          (first
            | (go_at_call 13; refine (HSUM.out _).mono ?_; rintro e w2 ⟨rfl, hB2⟩)
            | (refine step_append_lies _ (by rfl) _ _ _ (by rfl) w1.heap.size 9 i0 _ 1 16 Try.underlying28 hi hz0 hz1 hz2 rfl (by omega) (.slice A' i c') i _ (by rfl) (by exact (World.ownsRow.alloc (own_below (w := wr.drew) hown hB2) _).drew) ⟨w2.heap.size, 0, none⟩ 1 1 [.string ⟨sq.toArray⟩] (by rfl) (by rfl) (by exact news_str w2 9 _) (by simp [Value.oneCell']) (by omega) (by unfold maxLen; omega) (by omega) (by have := hB2.size; simp at this ⊢; omega) (w2.heap.size + 1) (by simp) ?_; intro gg cap2 w3 hown3 hgrow hat hlt3))
        rename_i hHeld
        clear hHeld
        go_wp2_with fail
        go_roundg (gk - 1)
        case measure => go_light; have := HM.out; omega
        case rel =>
          go_light
          have := HM.out
          have := hB2.size
          refine ⟨i + 1, by omega, int_cast (by omega), by rw [HSU.out]; exact hown3, ?_, ?_⟩
          · refine ((hB.drew.trans (hB2.mono hB.size)).alloc ?_ _).grown hgrow ?_ (fun k hk => by have := (hown.lt k hk).1; omega)
            · have := hB2.size; have := hB.size; simp at *; omega
            · have := hB2.size; have := hB.size; simp at *; omega
          · have := hgrow.size; simp at *; omega
      · have h2i : (l.length : Int) ≤ 200 := by omega
        have h2m : min (l.length : Int) 200 = (l.length : Int) := by omega
        have hF : ((200 : Int) < (l.length : Int)) = False := by simp; omega
        have hsa := fun W => run_slice_all (P := Try.prog) 9 Try.underlying9 l W
        have h2t : l.take 200 = l := List.take_of_length_le (by omega)
        rw [h2t] at HSUM
        clear h2t
        go_wp2_with fail
        go_region_held3 (fun w' => w'.cell? ⟨b, off + i, none⟩ = some (.string ⟨l.toArray⟩))
          (first | go_keep | (rw [hgrow.cell_far _ (by have := hB2.size; simp at this ⊢; omega) hne]; assumption) | (rw [hB2.cell (p := ⟨b, off + i, none⟩) (by simp; omega)]; assumption))
          (first
            | (go_at_call 13; refine (HSUM.out _).mono ?_; rintro e w2 ⟨rfl, hB2⟩)
            | (refine step_append_lies _ (by rfl) _ _ _ (by rfl) w1.heap.size 9 i0 _ 1 16 Try.underlying28 hi hz0 hz1 hz2 rfl (by omega) (.slice A' i c') i _ (by rfl) (by exact (World.ownsRow.alloc (own_below (w := wr.drew) hown hB2) _).drew) ⟨w2.heap.size, 0, none⟩ 1 1 [.string ⟨sq.toArray⟩] (by rfl) (by rfl) (by exact news_str w2 9 _) (by simp [Value.oneCell']) (by omega) (by unfold maxLen; omega) (by omega) (by have := hB2.size; simp at this ⊢; omega) (w2.heap.size + 1) (by simp) ?_; intro gg cap2 w3 hown3 hgrow hat hlt3))
        rename_i hHeld
        clear hHeld
        go_wp2_with fail
        go_roundg (gk - 1)
        case measure => go_light; have := HM.out; omega
        case rel =>
          go_light
          have := HM.out
          have := hB2.size
          refine ⟨i + 1, by omega, int_cast (by omega), by rw [HSU.out]; exact hown3, ?_, ?_⟩
          · refine ((hB.drew.trans (hB2.mono hB.size)).alloc ?_ _).grown hgrow ?_ (fun k hk => by have := (hown.lt k hk).1; omega)
            · have := hB2.size; have := hB.size; simp at *; omega
            · have := hB2.size; have := hB.size; simp at *; omega
          · have := hgrow.size; simp at *; omega
    · obtain ⟨n, hn⟩ : ∃ n, n = min len 10 := ⟨_, rfl⟩
      obtain rfl : i = n := by omega
      have hnl : i ≤ len := by omega
      have hn10 : i ≤ 10 := by omega
      have hw2 : ¬ ((i : Int) < (len : Int) ∧ (i : Int) < 10) := by omega
      have hform : ∃ A' c', u3 = .slice A' i c' := by
        rcases hown.2 with ⟨h1, h2⟩ | ⟨g, cp, cur, h1, _⟩
        · exact ⟨none, 0, by rw [h1, h2]⟩
        · exact ⟨_, _, h1⟩
      obtain ⟨A', c', rfl⟩ := hform
      clear hm HM hlt hn
      by_cases hil : i < len
      · have hb1 : decide ((i : Int) < (len : Int)) = true := by simp; omega
        have hb2 : decide ((i : Int) < 10) = false := by simp; omega
        have hb3 : decide (i < len) = true := by simp; omega
        go_wp2_with fail
        clear hb1 hw2
        go_loopg [5] i (fun m v5 wx => m ≤ i ∧ v5 = .int .i64 ((m : Int) - 1) ∧ wx.ownsRow w1.heap.size 9 1 (.slice A' i c') i (sums ts i) ∧ Below w.heap.size w wx)
        case atStart => exact ⟨Nat.le_refl _, rfl, hown, hB⟩
        case round =>
          clear hown hB hws
          obtain ⟨hm, rfl, hown, hB⟩ := hrel
          by_cases hlt : 0 < gk
          · obtain ⟨k, rfl⟩ : ∃ k, gk = k + 1 := ⟨gk - 1, by omega⟩
            obtain ⟨b, off, rfl, hbl, hcells⟩ := hT.2 (by omega)
            have hc0 := hcells k (by omega)
            have hc : wr.cell? ⟨b, off + k, none⟩ = some (.string ⟨(ts.getD k []).toArray⟩) := (hB.cell (p := ⟨b, off + k, none⟩) hbl).trans hc0
            obtain ⟨g2, cp2, cur2, hv2, _⟩ := hown.2.resolve_left (fun h => by omega)
            injection hv2 with hv2 _ hce
            subst hce
            subst hv2
            have hs := hown.cellAt k (by omega)
            rw [sums_get ts i k (by omega)] at hs
            have hgB := (hown.lt g2 rfl).1
            have hgl := (hown.lt g2 rfl).2
            have hsl := sumL_len ((ts.getD k []).take 200)
            generalize ts.getD k [] = l at hc hs hsl
            have hsum := fun W => sum_any (l.take 200) (by simp; omega) W
            generalize hsq : sumL (l.take 200) = sq at hsum hs hsl
            have HSUM := hid hsum
            have j0 : (0 : Int) ≤ (k : Int) := by omega
            have j1 : (k : Int) < (len : Int) := by omega
            have j2 : (k : Int) < (i : Int) := by omega
            have hk1 : (((k + 1 : Nat) : Int) - 1) = (k : Int) := by omega
            have h32 : ((sq.length : Int) != 32) = false := by rw [hsl]; rfl
            have h32n : (sq.length : Int) = 32 := by omega
            rw [hk1]
            clear hc0 hcells hsum hsq hsl hk1 h32n
            by_cases h2 : 200 < l.length
            · have h2i : (200 : Int) < (l.length : Int) := by omega
              have h2m : min (l.length : Int) 200 = 200 := by omega
              have h2n : ¬ (l.length : Int) < 200 := by omega
              go_wp2_with fail
              go_region_held3 (fun w' => w'.cell? ⟨b, off + k, none⟩ = some (.string ⟨l.toArray⟩) ∧ w'.cell? ⟨g2, k, none⟩ = some (.string ⟨sq.toArray⟩))
                (first | go_keep | (refine ⟨?_, ?_⟩; (rw [hB2.cell (p := ⟨b, off + k, none⟩) (by have := hB.size; simp; omega)]; assumption); (rw [hB2.cell (p := ⟨g2, k, none⟩) (by simp; omega)]; assumption)))
                (first | (go_at_call 13; refine (HSUM.out _).mono ?_; rintro e w2 ⟨rfl, hB2⟩))
              rename_i hHeld
              clear hHeld
              go_wp2_with fail
              go_roundg k
              case measure => go_light; omega
              case rel =>
                go_light
                exact ⟨by omega, int_cast (by omega), own_below (w := wr.drew) hown hB2, hB.drew.trans (hB2.mono hB.size)⟩
            · have h2i : (l.length : Int) ≤ 200 := by omega
              have h2m : min (l.length : Int) 200 = (l.length : Int) := by omega
              have hF : ((200 : Int) < (l.length : Int)) = False := by simp; omega
              have hsa := fun W => run_slice_all (P := Try.prog) 9 Try.underlying9 l W
              have h2t : l.take 200 = l := List.take_of_length_le (by omega)
              rw [h2t] at HSUM
              clear h2t
              go_wp2_with fail
              go_region_held3 (fun w' => w'.cell? ⟨b, off + k, none⟩ = some (.string ⟨l.toArray⟩) ∧ w'.cell? ⟨g2, k, none⟩ = some (.string ⟨sq.toArray⟩))
                (first | go_keep | (refine ⟨?_, ?_⟩; (rw [hB2.cell (p := ⟨b, off + k, none⟩) (by have := hB.size; simp; omega)]; assumption); (rw [hB2.cell (p := ⟨g2, k, none⟩) (by simp; omega)]; assumption)))
                (first | (go_at_call 13; refine (HSUM.out _).mono ?_; rintro e w2 ⟨rfl, hB2⟩))
              rename_i hHeld
              clear hHeld
              go_wp2_with fail
              go_roundg k
              case measure => go_light; omega
              case rel =>
                go_light
                exact ⟨by omega, int_cast (by omega), own_below (w := wr.drew) hown hB2, hB.drew.trans (hB2.mono hB.size)⟩
          · obtain rfl : gk = 0 := by omega
            go_wp2_with fail
            go_ret
            exact ⟨rfl, hB⟩
      · have hb1 : decide ((i : Int) < (len : Int)) = false := by simp; omega
        have hb3 : decide (i < len) = false := by simp; omega
        go_wp2_with fail
        clear hb1 hw2
        go_loopg [5] i (fun m v5 wx => m ≤ i ∧ v5 = .int .i64 ((m : Int) - 1) ∧ wx.ownsRow w1.heap.size 9 1 (.slice A' i c') i (sums ts i) ∧ Below w.heap.size w wx)
        case atStart => exact ⟨Nat.le_refl _, rfl, hown, hB⟩
        case round =>
          clear hown hB hws
          obtain ⟨hm, rfl, hown, hB⟩ := hrel
          by_cases hlt : 0 < gk
          · obtain ⟨k, rfl⟩ : ∃ k, gk = k + 1 := ⟨gk - 1, by omega⟩
            obtain ⟨b, off, rfl, hbl, hcells⟩ := hT.2 (by omega)
            have hc0 := hcells k (by omega)
            have hc : wr.cell? ⟨b, off + k, none⟩ = some (.string ⟨(ts.getD k []).toArray⟩) := (hB.cell (p := ⟨b, off + k, none⟩) hbl).trans hc0
            obtain ⟨g2, cp2, cur2, hv2, _⟩ := hown.2.resolve_left (fun h => by omega)
            injection hv2 with hv2 _ hce
            subst hce
            subst hv2
            have hs := hown.cellAt k (by omega)
            rw [sums_get ts i k (by omega)] at hs
            have hgB := (hown.lt g2 rfl).1
            have hgl := (hown.lt g2 rfl).2
            have hsl := sumL_len ((ts.getD k []).take 200)
            generalize ts.getD k [] = l at hc hs hsl
            have hsum := fun W => sum_any (l.take 200) (by simp; omega) W
            generalize hsq : sumL (l.take 200) = sq at hsum hs hsl
            have HSUM := hid hsum
            have j0 : (0 : Int) ≤ (k : Int) := by omega
            have j1 : (k : Int) < (len : Int) := by omega
            have j2 : (k : Int) < (i : Int) := by omega
            have hk1 : (((k + 1 : Nat) : Int) - 1) = (k : Int) := by omega
            have h32 : ((sq.length : Int) != 32) = false := by rw [hsl]; rfl
            have h32n : (sq.length : Int) = 32 := by omega
            rw [hk1]
            clear hc0 hcells hsum hsq hsl hk1 h32n
            by_cases h2 : 200 < l.length
            · have h2i : (200 : Int) < (l.length : Int) := by omega
              have h2m : min (l.length : Int) 200 = 200 := by omega
              have h2n : ¬ (l.length : Int) < 200 := by omega
              go_wp2_with fail
              go_region_held3 (fun w' => w'.cell? ⟨b, off + k, none⟩ = some (.string ⟨l.toArray⟩) ∧ w'.cell? ⟨g2, k, none⟩ = some (.string ⟨sq.toArray⟩))
                (first | go_keep | (refine ⟨?_, ?_⟩; (rw [hB2.cell (p := ⟨b, off + k, none⟩) (by have := hB.size; simp; omega)]; assumption); (rw [hB2.cell (p := ⟨g2, k, none⟩) (by simp; omega)]; assumption)))
                (first | (go_at_call 13; refine (HSUM.out _).mono ?_; rintro e w2 ⟨rfl, hB2⟩))
              rename_i hHeld
              clear hHeld
              go_wp2_with fail
              go_roundg k
              case measure => go_light; omega
              case rel =>
                go_light
                exact ⟨by omega, int_cast (by omega), own_below (w := wr.drew) hown hB2, hB.drew.trans (hB2.mono hB.size)⟩
            · have h2i : (l.length : Int) ≤ 200 := by omega
              have h2m : min (l.length : Int) 200 = (l.length : Int) := by omega
              have hF : ((200 : Int) < (l.length : Int)) = False := by simp; omega
              have hsa := fun W => run_slice_all (P := Try.prog) 9 Try.underlying9 l W
              have h2t : l.take 200 = l := List.take_of_length_le (by omega)
              rw [h2t] at HSUM
              clear h2t
              go_wp2_with fail
              go_region_held3 (fun w' => w'.cell? ⟨b, off + k, none⟩ = some (.string ⟨l.toArray⟩) ∧ w'.cell? ⟨g2, k, none⟩ = some (.string ⟨sq.toArray⟩))
                (first | go_keep | (refine ⟨?_, ?_⟩; (rw [hB2.cell (p := ⟨b, off + k, none⟩) (by have := hB.size; simp; omega)]; assumption); (rw [hB2.cell (p := ⟨g2, k, none⟩) (by simp; omega)]; assumption)))
                (first | (go_at_call 13; refine (HSUM.out _).mono ?_; rintro e w2 ⟨rfl, hB2⟩))
              rename_i hHeld
              clear hHeld
              go_wp2_with fail
              go_roundg k
              case measure => go_light; omega
              case rel =>
                go_light
                exact ⟨by omega, int_cast (by omega), own_below (w := wr.drew) hown hB2, hB.drew.trans (hB2.mono hB.size)⟩
          · obtain rfl : gk = 0 := by omega
            go_wp2_with fail
            go_ret
            exact ⟨rfl, hB⟩
end Go.Proofs.Ythacopmahjcmaaa
