/-
  The walk of the program's block.
-/
import Derived.Test.YthacopmahjcmaaaPlainB
import Derived.Deep.RegionHeld3
import Derived.Deep.DeepCutAuto
import Derived.StillTailTactics
import Derived.RangeFuncLeaves
namespace Go.Proofs.Ythacopmahjcmaaa
open Go.RowKit
set_option linter.unusedVariables false
attribute [local go_sem] w_xor w_and w_or w_add w_add'

theorem u32_byte (p : UInt8) : IntKind.u32.wrap (p.toNat : Int) = (p.toNat : Int) := by
  have := p.toNat_lt
  rw [IntKind.wrap_u32']
  omega
theorem be_part (p : UInt8) (k : Nat) (hk : k ≤ 16777216) : IntKind.u32.wrap (IntKind.u32.wrap (p.toNat : Int) * (k : Int)) = ((UInt32.ofNat (p.toNat * k)).toNat : Int) := by
  have hp := p.toNat_lt
  have hm : p.toNat * k ≤ 255 * 16777216 := Nat.mul_le_mul (by omega) hk
  have e : (p.toNat : Int) * (k : Int) = ((p.toNat * k : Nat) : Int) := by simp
  rw [u32_byte, IntKind.wrap_u32', UInt32.toNat_ofNat', e]
  omega
theorem be_last (p : UInt8) : IntKind.u32.wrap (p.toNat : Int) = ((UInt32.ofNat p.toNat).toNat : Int) := by
  have hp := p.toNat_lt
  rw [u32_byte, UInt32.toNat_ofNat']
  omega
theorem be4_walk (p0 p1 p2 p3 : UInt8) : bits .or .u32 (bits .or .u32 (bits .or .u32 (IntKind.u32.wrap (IntKind.u32.wrap (p0.toNat : Int) * 16777216)) (IntKind.u32.wrap (IntKind.u32.wrap (p1.toNat : Int) * 65536))) (IntKind.u32.wrap (IntKind.u32.wrap (p2.toNat : Int) * 256))) (IntKind.u32.wrap (p3.toNat : Int)) = ((be4 p0 p1 p2 p3).toNat : Int) := by
  have h0 := be_part p0 16777216 (by omega)
  have h1 := be_part p1 65536 (by omega)
  have h2 := be_part p2 256 (by omega)
  have h3 := be_last p3
  rw [show ((16777216 : Nat) : Int) = 16777216 from rfl] at h0
  rw [show ((65536 : Nat) : Int) = 65536 from rfl] at h1
  rw [show ((256 : Nat) : Int) = 256 from rfl] at h2
  rw [h0, h1, h2, h3, w_or, w_or, w_or]
  rfl
theorem cell_new0 (w : World) (cs : Array Value) (t : TypeId) (i : Nat) : (w.alloc (.cells cs t)).cell? ⟨w.heap.size, i, none⟩ = cs[i]? := (At.new w t cs).cell i
theorem cell_lt {w : World} {b i : Nat} {u : Value} (h : w.cell? ⟨b, i, none⟩ = some u) : b < w.heap.size := by
  rcases Nat.lt_or_ge b w.heap.size with hlt | hge
  · exact hlt
  · simp [World.cell?, Array.getElem?_eq_none hge] at h
theorem Rd.of_cells {w : World} {blk : Nat} {xs : List Value} (g : Nat) (hg : blk ≠ g) (hl : blk < w.heap.size) (h : ∀ j u, xs[j]? = some u → w.cell? ⟨blk, j, none⟩ = some u) : Rd w g (some ⟨blk, 0, none⟩) xs.length xs :=
  ⟨rfl, fun _ => ⟨blk, 0, rfl, hg, hl, fun j x hx => by rw [Nat.zero_add]; exact h j x hx⟩⟩
theorem right_two (x : UInt32) (a b : Nat) (ha : 1 ≤ a ∧ a ≤ 31) (hb : 1 ≤ b ∧ b ≤ 31) (blk c : Nat) (w : World) (h0 : w.cell? ⟨blk, 0, none⟩ = some (.int .i64 (a : Int))) (h1 : w.cell? ⟨blk, 1, none⟩ = some (.int .i64 (b : Int))) :
    Calls Try.prog 53 #[.int .u32 x.toNat, .slice (some ⟨blk, 0, none⟩) 2 c] w fun e w' => e = .returned (.int .u32 (wx (rotr x a) (rotr x b)).toNat) ∧ w = w' := by
  have hr := right_any x [a, b] (by simp [ha, hb]) (by simp) (some ⟨blk, 0, none⟩) c (blk + 1) w (Rd.of_cells (xs := iv [a, b]) (blk + 1) (by omega) (cell_lt h0) (fun j u hu => by
    match j, hu with
    | 0, hx => simp [iv] at hx; subst hx; exact h0
    | 1, hx => simp [iv] at hx; subst hx; exact h1
    | j + 2, hx => simp [iv] at hx))
  rw [rots_two] at hr
  exact hr
theorem right_three (x : UInt32) (a b d : Nat) (ha : 1 ≤ a ∧ a ≤ 31) (hb : 1 ≤ b ∧ b ≤ 31) (hd : 1 ≤ d ∧ d ≤ 31) (blk c : Nat) (w : World) (h0 : w.cell? ⟨blk, 0, none⟩ = some (.int .i64 (a : Int))) (h1 : w.cell? ⟨blk, 1, none⟩ = some (.int .i64 (b : Int))) (h2 : w.cell? ⟨blk, 2, none⟩ = some (.int .i64 (d : Int))) :
    Calls Try.prog 53 #[.int .u32 x.toNat, .slice (some ⟨blk, 0, none⟩) 3 c] w fun e w' => e = .returned (.int .u32 (wx (wx (rotr x a) (rotr x b)) (rotr x d)).toNat) ∧ w = w' := by
  have hr := right_any x [a, b, d] (by simp [ha, hb, hd]) (by simp) (some ⟨blk, 0, none⟩) c (blk + 1) w (Rd.of_cells (xs := iv [a, b, d]) (blk + 1) (by omega) (cell_lt h0) (fun j u hu => by
    match j, hu with
    | 0, hx => simp [iv] at hx; subst hx; exact h0
    | 1, hx => simp [iv] at hx; subst hx; exact h1
    | 2, hx => simp [iv] at hx; subst hx; exact h2
    | j + 3, hx => simp [iv] at hx))
  rw [rots_three] at hr
  exact hr
theorem w_shr (x : UInt32) (n : Nat) (h : n ≤ 31) : (x.toNat : Int) / ((2 ^ n : Nat) : Int) = ((wsr x n).toNat : Int) := by
  have h1 : x.toNat / 2 ^ n < 4294967296 := Nat.lt_of_le_of_lt (Nat.div_le_self _ _) x.toNat_lt
  rw [wsr, UInt32.toNat_ofNat', ← Int.natCast_ediv, Nat.mod_eq_of_lt h1]
theorem cell_set_off (W : World) (g i j : Nat) (u : Value) (h : ¬ i = j) : (W.setCell ⟨g, i, none⟩ u).cell? ⟨g, j, none⟩ = W.cell? ⟨g, j, none⟩ :=
  World.cell?_setCell_other _ _ _ _ (fun e => h (by injection e with _ e))
theorem w_not (x : UInt32) : bits .xor .u32 IntKind.u32.max (x.toNat : Int) = ((wc x).toNat : Int) := by
  rw [show IntKind.u32.max = (((-1 : UInt32).toNat : Nat) : Int) from rfl, w_xor, wx, wc, UInt32.neg_one_xor]
/-- Sums so far. -/
def accW (h v : List UInt32) (i : Nat) : List UInt32 := (addW h v).take i ++ h.drop i
theorem accW_len (h v : List UInt32) (i : Nat) (hv : v.length = h.length) (hi : i ≤ h.length) : (accW h v i).length = h.length := by
  simp [accW, addW]
  omega
theorem accW_at (h v : List UInt32) (i : Nat) (hv : v.length = h.length) (hi : i < h.length) : (accW h v i)[i]'(by rw [accW_len _ _ _ hv (by omega)]; exact hi) = h[i] := by
  have hl : ((addW h v).take i).length = i := by simp [addW]; omega
  simp only [accW]
  rw [List.getElem_append_right (by omega)]
  simp only [hl, Nat.sub_self, List.getElem_drop, Nat.add_zero]
theorem accW_set (h v : List UInt32) (i : Nat) (hv : v.length = h.length) (hi : i < h.length) : (accW h v i).set i (wa h[i] (v[i]'(by omega))) = accW h v (i + 1) := by
  have hl : ((addW h v).take i).length = i := by simp [addW]; omega
  have ha : i < (addW h v).length := by simp [addW]; omega
  unfold accW
  rw [List.set_append_right _ _ (by omega), hl, Nat.sub_self, List.take_succ_eq_append_getElem ha, List.drop_eq_getElem_cons hi, List.set_cons_zero, List.append_assoc]
  simp [addW]
theorem accW_end (h v : List UInt32) (hv : v.length = h.length) (h8 : h.length = 8) : accW h v 8 = addW h v := by
  unfold accW
  rw [List.take_of_length_le (by simp [addW]; omega), List.drop_of_length_le (by omega), List.append_nil]
theorem schedRow_end (bs : List UInt8) : schedRow bs 64 = sched bs 64 := by simp [schedRow]
attribute [local go_sem] w_not
set_option maxRecDepth 100000 in
set_option maxHeartbeats 4000000 in
theorem block_any (hs : List UInt32) (hsl8 : hs.length = 8) (bs : List UInt8) (hbs : bs.length = 64) (b off c kb : Nat) (w : World)
    (hb : ∀ j u, (bv bs)[j]? = some u → w.cell? ⟨b, off + j, none⟩ = some u) (hbl : b < w.heap.size) (hk : Ws w kb 44 Kc) :
    Calls Try.prog 30 #[.agg (wv hs).toArray, .slice (some ⟨b, off, none⟩) 64 c, .pointer (some ⟨kb, 0, none⟩)] w fun e w' => e = .returned (.agg (wv (blockF hs bs)).toArray) ∧ Below w.heap.size w w' := by
  go_enter Try.func30, Try.ntmps30
  go_wp2_with fail
  generalize hW : (((w.alloc _).alloc _).alloc _) = W1
  have hA1 : Ws W1 w.heap.size 43 hs := by rw [← hW]; exact ((At.new _ _ _).alloc _).alloc _
  have hA2 : Ws W1 (w.heap.size + 1) 43 (List.replicate 8 0) := by rw [← hW]; exact (At.new' _ _ _ (by simp)).alloc _
  have hA3 : Ws W1 (w.heap.size + 1 + 1) 44 (schedRow bs 0) := by rw [← hW]; exact At.new' _ _ _ (by simp)
  have hC : Below w.heap.size w W1 := by rw [← hW]; exact (((Below.refl _ _).alloc (Nat.le_refl _) _).alloc (by simp) _).alloc (by simp; omega) _
  clear hW
  go_loopg [15] 64 (fun m v15 wr => ∃ i : Nat, m + i = 64 ∧ v15 = .int .i64 i ∧ Ws wr w.heap.size 43 hs ∧ Ws wr (w.heap.size + 1) 43 (List.replicate 8 0) ∧ Ws wr (w.heap.size + 1 + 1) 44 (schedRow bs i) ∧ Below w.heap.size w wr)
  case atStart => exact ⟨0, rfl, rfl, hA1, hA2, hA3, hC⟩
  case round =>
    clear hA1 hA2 hA3 hC
    obtain ⟨i, hi, rfl, hA1, hA2, hA3, hC⟩ := hrel
    have HI := hid hi
    by_cases hlt : i < 64
    · by_cases h16 : i < 16
      · have hbyte : ∀ k, k < 64 → wr.cell? ⟨b, off + k, none⟩ = some (.int .u8 ((bs.getD k 0).toNat : Int)) := fun k hk => by
          rw [hC.cell (p := ⟨b, off + k, none⟩) hbl]
          exact hb k _ (bv_getD bs k (by omega))
        have c0 := hbyte (4 * i) (by omega)
        have c1 := hbyte (4 * i + 1) (by omega)
        have c2 := hbyte (4 * i + 2) (by omega)
        have c3 := hbyte (4 * i + 3) (by omega)
        generalize hp0 : bs.getD (4 * i) 0 = p0 at c0
        generalize hp1 : bs.getD (4 * i + 1) 0 = p1 at c1
        generalize hp2 : bs.getD (4 * i + 2) 0 = p2 at c2
        generalize hp3 : bs.getD (4 * i + 3) 0 = p3 at c3
        have e0 : IntKind.i64.wrap (4 * (i : Int)) = 4 * (i : Int) := IntWalk.i64_in _ (by omega)
        have e1 : IntKind.i64.wrap (4 * (i : Int) + 1) = 4 * (i : Int) + 1 := IntWalk.i64_in _ (by omega)
        have e2 : IntKind.i64.wrap (4 * (i : Int) + 2) = 4 * (i : Int) + 2 := IntWalk.i64_in _ (by omega)
        have e3 : IntKind.i64.wrap (4 * (i : Int) + 3) = 4 * (i : Int) + 3 := IntWalk.i64_in _ (by omega)
        have n0 : (4 * (i : Int)).toNat = 4 * i := by omega
        have n1 : (4 * (i : Int) + 1).toNat = 4 * i + 1 := by omega
        have n2 : (4 * (i : Int) + 2).toNat = 4 * i + 2 := by omega
        have n3 : (4 * (i : Int) + 3).toNat = 4 * i + 3 := by omega
        have HP := hid (And.intro hp0 (And.intro hp1 (And.intro hp2 hp3)))
        have b0 : (0 : Int) ≤ 4 * (i : Int) ∧ 4 * (i : Int) < 64 := by omega
        have b1 : (0 : Int) ≤ 4 * (i : Int) + 1 ∧ 4 * (i : Int) + 1 < 64 := by omega
        have b2 : (0 : Int) ≤ 4 * (i : Int) + 2 ∧ 4 * (i : Int) + 2 < 64 := by omega
        have b3 : (0 : Int) ≤ 4 * (i : Int) + 3 ∧ 4 * (i : Int) + 3 < 64 := by omega
        obtain ⟨b0, b0'⟩ := b0
        obtain ⟨b1, b1'⟩ := b1
        obtain ⟨b2, b2'⟩ := b2
        obtain ⟨b3, b3'⟩ := b3
        have i0 : (0 : Int) ≤ (i : Int) := by omega
        have i16 : (i : Int) < 16 := by omega
        have i64 : (i : Int) < 64 := by omega
        clear hbyte hi hp0 hp1 hp2 hp3
        go_wp2_with fail
        go_still_tail 35, (by kernel_rfl)
        change wpList _ _ _ _ _ wr.drew
        rw [be4_walk]
        have hcl := Ws.has (At.drew hA3) i (by rw [schedRow_len _ _ (by omega)]; exact hlt)
        have hf := At.frozen (At.drew hA3) i
        have hst := Ws.store (At.drew hA3) i (be4 p0 p1 p2 p3)
        have hsw : be4 p0 p1 p2 p3 = schedWord bs (sched bs i) i := by
          obtain ⟨q0, q1, q2, q3⟩ := HP.out
          simp only [schedWord, h16, if_true, beAt, q0, q1, q2, q3]
        have HS : Hid (Ws (wr.drew.setCell ⟨w.heap.size + 1 + 1, i, none⟩ (.int .u32 ((be4 p0 p1 p2 p3).toNat : Int))) (w.heap.size + 1 + 1) 44 (schedRow bs (i + 1))) := by
          rw [← schedRow_set bs i hlt, ← hsw]; exact hst
        clear hst hsw
        generalize (schedRow bs i)[i]'(by rw [schedRow_len _ _ (by omega)]; exact hlt) = old at hcl
        clear e0 e1 e2 e3 n0 n1 n2 n3
        go_wp2_with fail
        go_roundg (gk - 1)
        case measure => go_light; have := HI.out; omega
        case rel =>
          go_light
          have := HI.out
          exact ⟨i + 1, by omega, int_cast (by omega), At.far (At.drew hA1) (by simp; omega) _, At.far (At.drew hA2) (by simp) _, HS.out, hC.drew.setCell (p := ⟨w.heap.size + 1 + 1, i, none⟩) (by simp; omega) _⟩
      · have hrow : ∀ k, k < i → wr.cell? ⟨w.heap.size + 1 + 1, k, none⟩ = some (.int .u32 (((sched bs i).getD k 0).toNat : Int)) := fun k hk => by
          have hl : k < (schedRow bs i).length := by rw [schedRow_len _ _ (by omega)]; omega
          have := hA3.has k hl
          have e := schedRow_get bs i k hk (by omega)
          rw [List.getElem?_eq_getElem hl] at e
          injection e with e
          rw [this, e]
        have c0 := hrow (i - 16) (by omega)
        have c1 := hrow (i - 15) (by omega)
        have c2 := hrow (i - 7) (by omega)
        have c3 := hrow (i - 2) (by omega)
        generalize hp0 : (sched bs i).getD (i - 16) 0 = p0 at c0
        generalize hp1 : (sched bs i).getD (i - 15) 0 = p1 at c1
        generalize hp2 : (sched bs i).getD (i - 7) 0 = p2 at c2
        generalize hp3 : (sched bs i).getD (i - 2) 0 = p3 at c3
        have HP := hid (And.intro hp0 (And.intro hp1 (And.intro hp2 hp3)))
        have n0 : ((i : Int) - 16).toNat = i - 16 := by omega
        have n1 : ((i : Int) - 15).toNat = i - 15 := by omega
        have n2 : ((i : Int) - 7).toNat = i - 7 := by omega
        have n3 : ((i : Int) - 2).toNat = i - 2 := by omega
        have d0 : ¬ i = i - 16 := by omega
        have d1 : ¬ i = i - 15 := by omega
        have d2 : ¬ i = i - 7 := by omega
        have d3 : ¬ i = i - 2 := by omega
        generalize i - 16 = j0 at c0 n0 d0
        generalize i - 15 = j1 at c1 n1 d1
        generalize i - 7 = j2 at c2 n2 d2
        generalize i - 2 = j3 at c3 n3 d3
        have s3 : (p1.toNat : Int) / 8 = ((wsr p1 3).toNat : Int) := w_shr p1 3 (by omega)
        have s10 : (p3.toNat : Int) / 1024 = ((wsr p3 10).toNat : Int) := w_shr p3 10 (by omega)
        have e0 : IntKind.i64.wrap ((i : Int) - 16) = (i : Int) - 16 := IntWalk.i64_in _ (by omega)
        have e1 : IntKind.i64.wrap ((i : Int) - 15) = (i : Int) - 15 := IntWalk.i64_in _ (by omega)
        have e2 : IntKind.i64.wrap ((i : Int) - 7) = (i : Int) - 7 := IntWalk.i64_in _ (by omega)
        have e3 : IntKind.i64.wrap ((i : Int) - 2) = (i : Int) - 2 := IntWalk.i64_in _ (by omega)
        have b16 : (16 : Int) ≤ (i : Int) := by omega
        have b15 : (15 : Int) ≤ (i : Int) := by omega
        have b7 : (7 : Int) ≤ (i : Int) := by omega
        have b2 : (2 : Int) ≤ (i : Int) := by omega
        have z0 : (0 : Int) ≤ (i : Int) - 16 := by omega
        have z1 : (0 : Int) ≤ (i : Int) - 15 := by omega
        have z2 : (0 : Int) ≤ (i : Int) - 7 := by omega
        have z3 : (0 : Int) ≤ (i : Int) - 2 := by omega
        have y0 : (i : Int) - 16 < 64 := by omega
        have y1 : (i : Int) - 15 < 64 := by omega
        have y2 : (i : Int) - 7 < 64 := by omega
        have y3 : (i : Int) - 2 < 64 := by omega
        have i0 : (0 : Int) ≤ (i : Int) := by omega
        have i64 : (i : Int) < 64 := by omega
        have hcl := Ws.has hA3 i (by rw [schedRow_len _ _ (by omega)]; exact hlt)
        have hf := At.frozen hA3 i
        generalize (schedRow bs i)[i]'(by rw [schedRow_len _ _ (by omega)]; exact hlt) = old at hcl
        have hgt : w.heap.size + 1 + 1 < wr.heap.size := hA3.lt
        have hgt1 : w.heap.size + 1 < wr.heap.size := by omega
        have k0 : ∀ u, (wr.setCell ⟨w.heap.size + 1 + 1, i, none⟩ u).cell? ⟨w.heap.size + 1 + 1, j0, none⟩ = some (.int .u32 (p0.toNat : Int)) := fun u => by rw [cell_set_off _ _ _ _ _ d0]; exact c0
        have k1 : ∀ u, (wr.setCell ⟨w.heap.size + 1 + 1, i, none⟩ u).cell? ⟨w.heap.size + 1 + 1, j1, none⟩ = some (.int .u32 (p1.toNat : Int)) := fun u => by rw [cell_set_off _ _ _ _ _ d1]; exact c1
        have k2 : ∀ u, (wr.setCell ⟨w.heap.size + 1 + 1, i, none⟩ u).cell? ⟨w.heap.size + 1 + 1, j2, none⟩ = some (.int .u32 (p2.toNat : Int)) := fun u => by rw [cell_set_off _ _ _ _ _ d2]; exact c2
        have k3 : ∀ u, (wr.setCell ⟨w.heap.size + 1 + 1, i, none⟩ u).cell? ⟨w.heap.size + 1 + 1, j3, none⟩ = some (.int .u32 (p3.toNat : Int)) := fun u => by rw [cell_set_off _ _ _ _ _ d3]; exact c3
        have hsw : wa (wa (wa p0 (wx (wx (rotr p1 7) (rotr p1 18)) (wsr p1 3))) p2) (wx (wx (rotr p3 17) (rotr p3 19)) (wsr p3 10)) = schedWord bs (sched bs i) i := by
          obtain ⟨q0, q1, q2, q3⟩ := HP.out
          simp only [schedWord, h16, if_false, sg0, sg1, q0, q1, q2, q3]
        have hst := Ws.store hA3 i (schedWord bs (sched bs i) i)
        rw [schedRow_set bs i hlt, ← hsw] at hst
        have HS := hid hst
        have h16' : ¬ (i : Int) < 16 := by omega
        clear hrow hi hp0 hp1 hp2 hp3 HP hsw hst
        go_upto_region 8 with fail
        go_region_held3 (fun w' => w'.cell? ⟨w.heap.size + 1 + 1, j0, none⟩ = some (.int .u32 (p0.toNat : Int)) ∧ w'.cell? ⟨w.heap.size + 1 + 1, j1, none⟩ = some (.int .u32 (p1.toNat : Int)) ∧ w'.cell? ⟨w.heap.size + 1 + 1, j2, none⟩ = some (.int .u32 (p2.toNat : Int)) ∧ w'.cell? ⟨w.heap.size + 1 + 1, j3, none⟩ = some (.int .u32 (p3.toNat : Int)))
            (first | (simp [*, World.cell?_alloc_some]; done) | exact ⟨cell_alloc_l _ (cell_alloc_l _ (k0 _)), cell_alloc_l _ (cell_alloc_l _ (k1 _)), cell_alloc_l _ (cell_alloc_l _ (k2 _)), cell_alloc_l _ (cell_alloc_l _ (k3 _))⟩)
            (first | (go_at_call 53; (with_reducible refine (right_two p1 7 18 (by decide) (by decide) _ _ _ ?_ ?_).mono ?_); (simp [*]); (simp [*]); rintro e w' ⟨rfl, rfl⟩) | (go_at_call 53; (with_reducible refine (right_two p3 17 19 (by decide) (by decide) _ _ _ ?_ ?_).mono ?_); (simp [*]); (simp [*]); rintro e w' ⟨rfl, rfl⟩))
        all_goals
          go_wp2_with fail
          go_roundg (gk - 1)
          case measure => go_light; have := HI.out; omega
          case rel =>
            go_light
            have := HI.out
            exact ⟨i + 1, by omega, int_cast (by omega), ((At.far hA1 (by simp; omega) _).alloc _).alloc _, ((At.far hA2 (by simp) _).alloc _).alloc _, ((HS.out).alloc _).alloc _, (((hC.setCell (p := ⟨w.heap.size + 1 + 1, i, none⟩) (by simp; omega) _).alloc (by have := hC.size; simp; omega) _).alloc (by have := hC.size; simp; omega) _).drew⟩
    · obtain rfl : i = 64 := by omega
      rw [show ((64 : Nat) : Int) = 64 from rfl]
      rw [schedRow_end] at hA3
      have hsl := sched_len bs 64
      obtain ⟨sw, hsw⟩ : ∃ sw, sw = sched bs 64 := ⟨_, rfl⟩
      rw [← hsw] at hA3 hsl
      have HSW := hid hsw
      have hkl := Kc_len
      have hkr : Ws wr kb 44 Kc := At.below hk hC (At.lt hk)
      obtain ⟨kc, hkc⟩ : ∃ kc, kc = Kc := ⟨_, rfl⟩
      rw [← hkc] at hkr hk hkl
      have HKC := hid hkc
      have hkb : kb < w.heap.size := At.lt hk
      clear hi HI hlt hk hb hbs hsw hkc
      have i8 : (Try.prog.info? 43).map (·.size) = some 8 := by kernel_rfl
      have iH : (Try.prog.info? 43).map (·.size) = some (wv hs).toArray.size := by rw [i8]; simp [wv_length, hsl8]
      go_wp2_with (first | (refine wpList_load_row rfl 43 (.tmp 3) rfl w.heap.size rfl 43 _ _ _ hA1 Try.underlying43 rfl iH ?_) | (refine wpList_store_row rfl 43 (.tmp 10) (.tmp 95) rfl wr.heap.size rfl _ rfl 43 _ (At.new _ _ _) iH (by simp [wv_length, hsl8]) (wv_one hs) ?_; intro w1 hV ho hz))
      rw [World.size_alloc] at hz
      have hA1' : Ws w1 w.heap.size 43 hs := ho.at_ (At.alloc hA1 _) (by have := hA1.lt; omega)
      have hA3' : Ws w1 (w.heap.size + 1 + 1) 44 sw := ho.at_ (At.alloc hA3 _) (by have := hA3.lt; omega)
      have hA2' : Ws w1 (w.heap.size + 1) 43 (List.replicate 8 0) := ho.at_ (At.alloc hA2 _) (by have := hA2.lt; omega)
      have hkr' : Ws w1 kb 44 kc := ho.at_ (At.alloc hkr _) (by have := hkr.lt; omega)
      have hC' : Below w.heap.size w w1 := (hC.alloc hC.size _).trans (ho.below hC.size (by have := hC.size; simp; omega))
      have hVV : Ws w1 wr.heap.size 43 hs := hV
      have hg1 : w.heap.size + 1 + 1 < wr.heap.size := hA3.lt
      clear hA1 hA2 hA3 hkr hC ho hV
      obtain ⟨g, hg⟩ : ∃ g, g = wr.heap.size := ⟨_, rfl⟩
      rw [← hg] at hVV hg1 hz ⊢
      have HZ := hid hz
      clear hg hz
      go_loopg [96] 64 (fun m v96 wx => ∃ i : Nat, m + i = 64 ∧ v96 = .int .i64 i ∧ Ws wx w.heap.size 43 hs ∧ Ws wx (w.heap.size + 1) 43 (List.replicate 8 0) ∧ Ws wx g 43 (rnds kc sw hs i) ∧ Ws wx (w.heap.size + 1 + 1) 44 sw ∧ Ws wx kb 44 kc ∧ Below w.heap.size w wx)
      case atStart => exact ⟨0, rfl, rfl, hA1', hA2', hVV, hA3', hkr', hC'⟩
      case round =>
        clear hA1' hA2' hA3' hVV hkr' hC'
        obtain ⟨i, hi, rfl, hA1, hA2, hV, hA3, hK, hC⟩ := hrel
        have HI := hid hi
        by_cases hlt : i < 64
        · have hvl : (rnds kc sw hs i).length = 8 := by rw [rnds_len]; exact hsl8
          have hnx : rnds kc sw hs (i + 1) = rnd (rnds kc sw hs i) (kc.getD i 0) (sw.getD i 0) := rfl
          obtain ⟨v0, v1, v2, v3, v4, v5, v6, v7, hv⟩ := eight _ hvl
          rw [hv] at hV hnx
          have q0 := hV.has 0 (by simp)
          have q1 := hV.has 1 (by simp)
          have q2 := hV.has 2 (by simp)
          have q3 := hV.has 3 (by simp)
          have q4 := hV.has 4 (by simp)
          have q5 := hV.has 5 (by simp)
          have q6 := hV.has 6 (by simp)
          have q7 := hV.has 7 (by simp)
          simp only [List.getElem_cons_zero, List.getElem_cons_succ] at q0 q1 q2 q3 q4 q5 q6 q7
          have qk := hK.has i (by omega)
          have qw := hA3.has i (by omega)
          have ek : kc.getD i 0 = kc[i]'(by omega) := by simp [List.getD, List.getElem?_eq_getElem (show i < kc.length by omega)]
          have ew : sw.getD i 0 = sw[i]'(by omega) := by simp [List.getD, List.getElem?_eq_getElem (show i < sw.length by omega)]
          rw [ek, ew] at hnx
          generalize kc[i]'(by omega) = ki at qk hnx
          generalize sw[i]'(by omega) = wi at qw hnx
          have HN := hid hnx
          have i0 : (0 : Int) ≤ (i : Int) := by omega
          have i64 : (i : Int) < 64 := by omega
          have hsg : IntKind.u32.signed = false := rfl
          clear hnx ek ew hvl hv hi
          go_upto_region 14 with fail
          go_region_held3 (fun w' => w'.cell? ⟨g, 4, none⟩ = some (.int .u32 (v4.toNat : Int)) ∧ w'.cell? ⟨g, 5, none⟩ = some (.int .u32 (v5.toNat : Int)) ∧ w'.cell? ⟨g, 6, none⟩ = some (.int .u32 (v6.toNat : Int)) ∧ w'.cell? ⟨g, 7, none⟩ = some (.int .u32 (v7.toNat : Int)) ∧ w'.cell? ⟨kb, i, none⟩ = some (.int .u32 (ki.toNat : Int)) ∧ w'.cell? ⟨w.heap.size + 1 + 1, i, none⟩ = some (.int .u32 (wi.toNat : Int)))
            (simp [*, World.cell?_alloc_some])
            (first | (go_at_call 53; (with_reducible refine (right_three v4 6 11 25 (by decide) (by decide) (by decide) _ _ _ ?_ ?_ ?_).mono ?_); (simp [*]); (simp [*]); (simp [*]); rintro e w' ⟨rfl, rfl⟩))
          clear q4 q5 q6 q7 qk qw i0 i64 hsg
          obtain ⟨w2, hw2⟩ : ∃ w2, w2 = (wr.alloc (Obj.cells #[Value.int IntKind.i64 6, Value.int IntKind.i64 11, Value.int IntKind.i64 25] 3)).drew := ⟨_, rfl⟩
          rw [← hw2]
          rename_i hHeld
          clear hHeld
          have hA1 : Ws w2 w.heap.size 43 hs := by rw [hw2]; exact At.drew (At.alloc hA1 _)
          have hA2 : Ws w2 (w.heap.size + 1) 43 (List.replicate 8 0) := by rw [hw2]; exact At.drew (At.alloc hA2 _)
          have hA3 : Ws w2 (w.heap.size + 1 + 1) 44 sw := by rw [hw2]; exact At.drew (At.alloc hA3 _)
          have hK : Ws w2 kb 44 kc := by rw [hw2]; exact At.drew (At.alloc hK _)
          have hV : Ws w2 g 43 [v0, v1, v2, v3, v4, v5, v6, v7] := by rw [hw2]; exact At.drew (At.alloc hV _)
          have hC : Below w.heap.size w w2 := by rw [hw2]; exact (hC.alloc hC.size _).drew
          clear hw2
          have q0 := hV.has 0 (by simp)
          have q1 := hV.has 1 (by simp)
          have q2 := hV.has 2 (by simp)
          simp only [List.getElem_cons_zero, List.getElem_cons_succ] at q0 q1 q2
          go_upto_region 15 with fail
          go_region_held3 (fun w' => w'.cell? ⟨g, 0, none⟩ = some (.int .u32 (v0.toNat : Int)) ∧ w'.cell? ⟨g, 1, none⟩ = some (.int .u32 (v1.toNat : Int)) ∧ w'.cell? ⟨g, 2, none⟩ = some (.int .u32 (v2.toNat : Int)))
            (simp [*, World.cell?_alloc_some])
            (first | (go_at_call 53; (with_reducible refine (right_three v0 2 13 22 (by decide) (by decide) (by decide) _ _ _ ?_ ?_ ?_).mono ?_); (simp [*]); (simp [*]); (simp [*]); rintro e w' ⟨rfl, rfl⟩))
          obtain ⟨w3, hw3⟩ : ∃ w3, w3 = (w2.alloc (Obj.cells #[Value.int IntKind.i64 2, Value.int IntKind.i64 13, Value.int IntKind.i64 22] 3)).drew := ⟨_, rfl⟩
          rw [← hw3]
          rename_i hHeld
          clear hHeld
          have hA1 : Ws w3 w.heap.size 43 hs := by rw [hw3]; exact At.drew (At.alloc hA1 _)
          have hA2 : Ws w3 (w.heap.size + 1) 43 (List.replicate 8 0) := by rw [hw3]; exact At.drew (At.alloc hA2 _)
          have hA3 : Ws w3 (w.heap.size + 1 + 1) 44 sw := by rw [hw3]; exact At.drew (At.alloc hA3 _)
          have hK : Ws w3 kb 44 kc := by rw [hw3]; exact At.drew (At.alloc hK _)
          have hV : Ws w3 g 43 [v0, v1, v2, v3, v4, v5, v6, v7] := by rw [hw3]; exact At.drew (At.alloc hV _)
          have hC : Below w.heap.size w w3 := by rw [hw3]; exact (hC.alloc hC.size _).drew
          clear hw3
          have q0 := hV.has 0 (by simp)
          have q1 := hV.has 1 (by simp)
          have q2 := hV.has 2 (by simp)
          have q3 := hV.has 3 (by simp)
          have q4 := hV.has 4 (by simp)
          have q5 := hV.has 5 (by simp)
          have q6 := hV.has 6 (by simp)
          simp only [List.getElem_cons_zero, List.getElem_cons_succ] at q0 q1 q2 q3 q4 q5 q6
          go_wp2_with (refine wpList_store_row rfl 43 (.tmp 10) (.tmp 172) rfl g rfl _ rfl 43 _ hV i8 rfl (by simp [Value.oneCell']) ?_; intro w4 hV4 ho4 hz4)
          go_roundg (gk - 1)
          case measure => go_light; have := HI.out; omega
          case rel =>
            go_light
            have := HI.out
            have hgl := hA3.lt
            exact ⟨i + 1, by omega, int_cast (by omega), ho4.at_ hA1 (by omega), ho4.at_ hA2 (by omega), by rw [HN.out]; exact hV4, ho4.at_ hA3 (by omega), ho4.at_ hK (by omega), hC.trans (ho4.below (by omega) (by omega))⟩
        · obtain rfl : i = 64 := by omega
          rw [show ((64 : Nat) : Int) = 64 from rfl]
          have hvl : (rnds kc sw hs 64).length = 8 := by rw [rnds_len]; exact hsl8
          obtain ⟨v, hv⟩ : ∃ v, v = rnds kc sw hs 64 := ⟨_, rfl⟩
          rw [← hv] at hV hvl
          have HV := hid hv
          clear hi HI hlt hA3 hK hv
          go_wp2_with fail
          go_loopg [174] 8 (fun m v174 wx => ∃ i : Nat, m + i = 8 ∧ v174 = .int .i64 i ∧ Ws wx w.heap.size 43 (accW hs v i) ∧ Ws wx (w.heap.size + 1) 43 (List.replicate 8 0) ∧ Ws wx g 43 v ∧ Below w.heap.size w wx)
          case atStart => exact ⟨0, rfl, rfl, hA1, hA2, hV, hC⟩
          case round =>
            clear hA1 hA2 hV hC
            obtain ⟨i, hi, rfl, hA1, hA2, hV, hC⟩ := hrel
            have HI := hid hi
            by_cases hlt : i < 8
            · have q0 := hA1.has i (by rw [accW_len _ _ _ (by omega) (by omega)]; omega)
              rw [accW_at hs v i (by omega) (by omega)] at q0
              have q1 := hV.has i (by omega)
              have hf := At.frozen (At.drew hA1) i
              have hst := Ws.store (At.drew hA1) i (wa (hs[i]'(by omega)) (v[i]'(by omega)))
              rw [accW_set hs v i (by omega) (by omega)] at hst
              generalize hs[i]'(by omega) = x at q0 hst
              generalize v[i]'(by omega) = y at q1 hst
              have q2 : wr.drew.cell? ⟨w.heap.size, i, none⟩ = some (.int .u32 (x.toNat : Int)) := q0
              have HST := hid hst
              have i0 : (0 : Int) ≤ (i : Int) := by omega
              have i8' : (i : Int) < 8 := by omega
              clear hi hst
              go_wp2_with fail
              go_still_tail 8, (by kernel_rfl)
              change wpList _ _ _ _ _ wr.drew
              go_wp2_with fail
              go_roundg (gk - 1)
              case measure => go_light; have := HI.out; omega
              case rel =>
                go_light
                have := HI.out
                exact ⟨i + 1, by omega, int_cast (by omega), HST.out, At.far (At.drew hA2) (by simp) _, At.far (At.drew hV) (by simp; omega) _, hC.drew.setCell (p := ⟨w.heap.size, i, none⟩) (by simp) _⟩
            · obtain rfl : i = 8 := by omega
              rw [show ((8 : Nat) : Int) = 8 from rfl]
              rw [accW_end hs v (by omega) (by omega)] at hA1
              have hal : (addW hs v).length = 8 := by simp [addW]; omega
              obtain ⟨r, hr⟩ : ∃ r, r = addW hs v := ⟨_, rfl⟩
              rw [← hr] at hA1 hal
              have HR := hid hr
              have iR : (Try.prog.info? 43).map (·.size) = some (wv r).toArray.size := by rw [i8]; simp [wv_length, hal]
              clear hi HI hlt hV hr iH
              go_wp2_with (first | (refine wpList_load_row rfl 43 (.tmp 3) rfl w.heap.size rfl 43 _ _ _ hA1 Try.underlying43 rfl iR ?_) | (refine wpList_store_row rfl 43 (.tmp 6) (.tmp 186) rfl (w.heap.size + 1) rfl _ rfl 43 _ hA2 iR (by simp [wv_length, hal]) (wv_one r) ?_; intro w5 hR5 ho5 hz5))
              refine bodyPost_ret (results_cell_row rfl _ _ (w.heap.size + 1) 43 (wv r).toArray (0, 0) _ rfl hR5 Try.underlying43 rfl iR) rfl ⟨?_, hC.trans (ho5.below (by omega) hC.size)⟩
              rw [HR.out, HV.out, HSW.out, HKC.out]
              rfl
end Go.Proofs.Ythacopmahjcmaaa
