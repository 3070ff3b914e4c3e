/-
  The walk of the program's blocks: the iterator.
-/
import Derived.Test.YthacopmahjcmaaaS9
import Derived.Test.YthacopmahjcmaaaBuf
import Derived.Test.YthacopmahjcmaaaRange
namespace Go.Proofs.Ythacopmahjcmaaa
open Go.RowKit Go.Shelf
set_option linter.unusedVariables false
attribute [local go_sem] Oper.semAt_some

/-- A block that is handed over: where it lies, and its bytes. -/
structure Blk where
  g : Nat
  off : Nat
  cap : Nat
  bs : List UInt8
def Blk.enc (x : Blk) : Array Value := #[.slice (some ⟨x.g, x.off, none⟩) 64 x.cap]
/-- It lies in memory from block B on. -/
def Blk.Mem (B : Nat) (x : Blk) (W : World) : Prop :=
  x.bs.length = 64 ∧ B ≤ x.g ∧ x.g < W.heap.size ∧ ∀ j u, (bv x.bs)[j]? = some u → W.cell? ⟨x.g, x.off + j, none⟩ = some u
theorem Blk.Mem.same {B : Nat} {x : Blk} {W W' : World} (h : x.Mem B W) (hs : Same B W W') : x.Mem B W' :=
  ⟨h.1, h.2.1, Nat.lt_of_lt_of_le h.2.2.1 hs.1, fun j u hu => (World.cell?_of_block (hs.2 x.g h.2.1 h.2.2.1)).trans (h.2.2.2 j u hu)⟩
/-- These are all the blocks of padded bytes. -/
def AllBlks (l : List UInt8) (xs : List Blk) : Prop := xs.map Blk.bs = (List.range (blkN l)).map (blkAt (padL l))

theorem blkAt_get (p : List UInt8) (k j : Nat) (u : Value) (h : (bv (blkAt p k))[j]? = some u) : (bv p)[64 * k + j]? = some u := by
  rw [blkAt, ← bv_take, ← bv_drop, List.getElem?_take] at h
  split at h
  · rwa [List.getElem?_drop] at h
  · cases h
theorem news_one (w : World) (t : TypeId) (x : UInt8) : ∀ j u, (bv [x])[j]? = some u → (w.alloc (.cells #[.int .u8 (x.toNat : Int)] t)).cell? ((⟨w.heap.size, 0, none⟩ : Addr).add j) = some u :=
  World.news_of_block (cs := (bv [x]).toArray) (heap_alloc_new w _)
theorem buf_more {w w1 w2 : World} {B : Nat} {e : TypeId} {v : Value} {xs : List UInt8} (hb : Below B w w1) (h : Buf w1 B e v xs) (o : Obj) (hg : (w1.alloc o).grownBy w2 v.ownBlock) : Below B w w2 :=
  (hb.alloc (Nat.le_of_lt h.lt) o).grown hg (by have := h.lt; simp; omega) (fun k hk => ((h.alloc o).own k hk).1)

set_option maxRecDepth 100000 in
set_option maxHeartbeats 2000000 in
theorem blocks1_in (F : Fence) (n : Nat) (hF : F.fn 52) (hro : F.round = none) (hn : 1 ≤ n) (lr sb : Nat) (l : List UInt8) (hl : l.length ≤ 1000000) (J : List Blk → World → Prop) (W : World)
    (hs : W.cell? ⟨sb, 0, none⟩ = some (.string ⟨l.toArray⟩)) (hsb : sb < W.heap.size) (hJ : ∀ pre W1 W2, J pre W1 → Below W.heap.size W1 W2 → J pre W2)
    (hY : ∀ pre x W1, J pre W1 → pre.length < blkN l → x.Mem W.heap.size W1 → YieldAt F (n - 1) Try.prog lr x.enc W1 fun e W' => e = .returned (.bool true) ∧ J (pre ++ [x]) W' ∧ Same W.heap.size W1 W') (h0 : J [] W) :
    CallsIn F n Try.prog 52 #[.func (.yield lr) #[] #[], .pointer (some ⟨sb, 0, none⟩)] W fun e W' => (∃ v, e = .returned v) ∧ ∃ xs, AllBlks l xs ∧ J xs W' := by
  obtain ⟨i0, hi, hz0, hz1, hz2⟩ := info_parts info5
  have HJ := hid hJ
  have HY := hid hY
  clear hJ hY
  refine callsIn_of_wp Try.func52 rfl hF ?_ hro
  simp only [Try.ntmps52, List.size_toArray, List.length_cons, List.length_nil, Nat.reduceAdd, Nat.reduceSub, Array.replicate_succ, Array.replicate_zero, List.push_toArray, List.append_toArray, List.nil_append, List.cons_append]
  have hpz : padZ l.length < 64 := by unfold padZ; omega
  gi_wp2_with (first
    | (refine wpListIn_bytes_buf rfl (.tmp 5) 9 27 5 rfl Try.underlying9 Try.underlying27 Try.underlying5 l rfl (by omega) ?_; intro v1 w1 hb1 hB1)
    | (gi_at_builtin; refine wpListIn_append_buf rfl (.tmp 6) (.tmp 7) 27 rfl W.heap.size 5 i0 Try.underlying27 hi hz0 hz1 hz2 v1 l rfl (hb1.alloc _) ⟨w1.heap.size, 0, none⟩ 1 [128] 1 rfl rfl (news_one w1 5 128) (by simp; omega) ?_; intro v2 w2 hb2 hg2))
  have hB2 : Below W.heap.size W w2 := buf_more hB1 hb1 _ hg2
  rw [show l ++ [128] = padTo l 0 from rfl] at hb2
  clear hb1 hB1 hg2
  gi_loopg [3] (padZ l.length) (fun m v3 wr => ∃ z : Nat, m + z = padZ l.length ∧ Buf wr W.heap.size 5 v3 (padTo l z) ∧ Below W.heap.size W wr)
  case atStart => exact ⟨0, rfl, hb2, hB2⟩
  case round =>
    clear hb2 hB2
    obtain ⟨z, hz, hb, hB⟩ := hrel
    have HZ := hid hz
    obtain ⟨g, cap, rfl, hgB, hgl, hcap, hcl⟩ := hb.form
    have hif := padZ_iff l.length z (by omega)
    have hln := padTo_len l z
    have hsu := padTo_succ l z
    by_cases hlt : z = padZ l.length
    · have hbt : (((padTo l z).length : Int) % 64 != 56) = false := by
        have := hif.2 hlt
        rw [hln]
        simp
        omega
      have hk0 : padTo l z = padK l 0 := by rw [hlt]; simp [padK, lenBs]
      rw [hk0] at hbt hb hcap hcl ⊢
      have hkl := padK_len l 0
      have hlb2 : ((padK l 0).length : Int) ≤ 1000100 := by omega
      clear hif hln hsu hz hlt HZ hk0 hkl
      gi_wp2
      clear hbt hlb2 hcl hcap hgB hgl
      gi_loopg [3, 16] 8 (fun m v3 v16 wr => ∃ k : Nat, m + k = 8 ∧ v16 = .int .i64 k ∧ Buf wr W.heap.size 5 v3 (padK l k) ∧ Below W.heap.size W wr)
      case atStart => exact ⟨0, rfl, rfl, hb, hB⟩
      case round =>
        clear hb hB
        obtain ⟨k, hk, rfl, hb, hB⟩ := hrel
        have HK := hid hk
        have hkl := padK_len l k
        by_cases hlt : k < 8
        · have hs2 := byte_shr l.length k hl (by omega)
          have hw8 : (8 * (7 - (k : Int))).toNat = 8 * (7 - k) := by omega
          have hn8 : (0 : Int) ≤ 8 * (7 - (k : Int)) := by omega
          have hn7 : (0 : Int) ≤ 7 - (k : Int) := by omega
          have hlb2 : (padK l k).length ≤ 1000100 := by omega
          have hsc := padK_succ l k
          have HS := hid hsc
          have hcs : wr.cell? ⟨sb, 0, none⟩ = some (.string ⟨l.toArray⟩) := (hB.cell (p := ⟨sb, 0, none⟩) hsb).trans hs
          have hk8 : (k : Int) < 8 := by omega
          generalize hX : lenB l.length k = x at hs2 HS
          clear hsc hkl hk hX hs
          gi_wp2_with (gi_at_builtin; refine wpListIn_append_buf rfl (.tmp 19) (.tmp 29) 27 rfl W.heap.size 5 i0 Try.underlying27 hi hz0 hz1 hz2 _ (padK l k) rfl (hb.alloc _) ⟨wr.heap.size, 0, none⟩ 1 [x] 1 rfl rfl (news_one wr 5 x) (by simp; omega) ?_; intro v2 w2 hb2 hg2)
          have hB2 : Below W.heap.size W w2 := buf_more hB hb _ hg2
          gi_roundg (gk - 1)
          case measure => go_light; have := HK.out; omega
          case rel =>
            go_light
            have := HK.out
            exact ⟨k + 1, by omega, int_cast (by omega), by rw [← HS.out]; exact hb2, hB2⟩
        · obtain rfl : k = 8 := by omega
          obtain ⟨g, cap, hv, hgB, hgl, hcap, hcl⟩ := hb.form
          rw [show padK l 8 = padL l from rfl] at hv hcap hcl hkl
          have hpm := blkN_mul l
          have hpl := padL_le l
          subst hv
          obtain ⟨p, hp⟩ : ∃ p, p = padL l := ⟨_, rfl⟩
          rw [← hp] at hcap hcl hpm hpl ⊢
          have HP := hid hp
          have HPM := hid hpm
          have hJ0 : J [] wr := HJ.out _ _ _ h0 hB
          rw [show ((8 : Nat) : Int) = 8 from rfl]
          have hmem : ∀ wx, Same W.heap.size wr wx → ∀ k cp, 64 * k + 64 ≤ p.length → (Blk.mk g (64 * k) cp (blkAt p k)).Mem W.heap.size wx := fun wx hsm k cp hk =>
            Blk.Mem.same ⟨blkAt_len p k hk, hgB, hgl, fun j u hu => hcl _ u (blkAt_get p k j u hu)⟩ hsm
          have HM := hid hmem
          clear hk HK hlt hb hkl hp hpm h0 hcl hmem
          gi_wp2
          gi_loopg [3] (blkN l) (fun m v3 wx => ∃ (k off cp : Nat) (pre : List Blk), m + k = blkN l ∧ v3 = .slice (some ⟨g, off, none⟩) (64 * m) cp ∧ 64 * m ≤ cp ∧ (0 < m → off = 64 * k) ∧ pre.map Blk.bs = (List.range k).map (blkAt p) ∧ J pre wx ∧ Same W.heap.size wr wx)
          case atStart => exact ⟨0, 0, cap, [], rfl, by have := HPM.out; rw [this], by have := HPM.out; omega, fun _ => rfl, rfl, hJ0, Same.refl _ _⟩
          case round =>
            clear hJ0
            obtain ⟨k, off, cp, pre, hk, rfl, hcp, hoff, hpre, hJp, hsm⟩ := hrel
            have HK := hid hk
            have hpk : pre.length = k := by have := congrArg List.length hpre; simpa using this
            by_cases hm : 0 < gk
            · obtain rfl := hoff hm
              have hin : 64 * k + 64 ≤ p.length := by have := HPM.out; omega
              obtain ⟨fn, tmps, assign, body, hy, hR⟩ := HY.out pre ⟨g, 64 * k, cp, blkAt p k⟩ wr hJp (by omega) (HM.out wr hsm k cp hin)
              dsimp only [Blk.enc] at hy
              have hR2 := hid hR
              have hm2 : (0 : Int) < 64 * (gk : Int) := by omega
              have hc1 : (64 : Int) ≤ (cp : Int) := by omega
              have hc2 : (64 : Int) ≤ 64 * (gk : Int) := by omega
              have hnx : (pre ++ [Blk.mk g (64 * k) cp (blkAt p k)]).map Blk.bs = (List.range (k + 1)).map (blkAt p) := by simp [List.range_succ, hpre]
              have HNX := hid hnx
              have HCP := hid hcp
              clear hR hk hoff hpre hnx hcp hpk
              gi_wp2
              refine hR2.out.mono ?_
              rintro e W3 ⟨rfl, hJ3, hs3⟩
              have hsm3 : Same W.heap.size _ W3 := hsm.trans hs3
              have hsub : (64 * (gk : Int) - 64).toNat = 64 * (gk - 1) := by omega
              have hnat : 64 * gk - 64 = 64 * (gk - 1) := by omega
              have HSUB := hid (And.intro hsub hnat)
              clear hy hJp hsm hsub hnat
              by_cases hce : cp = 64
              · subst hce
                gi_wp2
                gi_roundg (gk - 1)
                case measure => go_light; omega
                case rel =>
                  go_light
                  have h1 := HK.out
                  have h2 := HCP.out
                  have h3 : gk = 1 := by omega
                  subst h3
                  exact ⟨k + 1, _, _, _, by omega, rfl, by omega, fun h => absurd h (by omega), HNX.out, hJ3, hsm3⟩
              · gi_wp2
                gi_roundg (gk - 1)
                case measure => go_light; omega
                case rel =>
                  go_light
                  have h1 := HK.out
                  have h2 := HCP.out
                  exact ⟨k + 1, 64 * k + 64, cp - 64, _, by omega, by rw [← HSUB.out.2], by omega, fun _ => by omega, HNX.out, hJ3, hsm3⟩
            · obtain rfl : gk = 0 := by omega
              gi_wp2
              go_end0
              refine ⟨⟨_, rfl⟩, pre, ?_, hJp⟩
              have := HK.out
              rw [AllBlks, ← HP.out, hpre, show k = blkN l by omega]
    · have hbt : (((padTo l z).length : Int) % 64 != 56) = true := by
        have : ¬ (l.length + 1 + z) % 64 = 56 := fun h => hlt (hif.1 h)
        rw [hln]
        simp
        omega
      have hlb2 : ((padTo l z).length : Int) ≤ 1000100 := by omega
      have HS := hid hsu
      clear hif hln hsu hz hcl
      gi_wp2_with (gi_at_builtin; refine wpListIn_append_buf rfl (.tmp 13) (.tmp 14) 27 rfl W.heap.size 5 i0 Try.underlying27 hi hz0 hz1 hz2 _ (padTo l z) rfl (hb.alloc _) ⟨wr.heap.size, 0, none⟩ 1 [0] 1 rfl rfl (news_one wr 5 0) (by simp; omega) ?_; intro v2 w2 hb2 hg2)
      have hB2 : Below W.heap.size W w2 := buf_more hB hb _ hg2
      gi_roundg (gk - 1)
      case measure => go_light; have := HZ.out; omega
      case rel =>
        go_light
        have := HZ.out
        exact ⟨z + 1, by omega, by rw [← HS.out]; exact hb2, hB2⟩
end Go.Proofs.Ythacopmahjcmaaa
