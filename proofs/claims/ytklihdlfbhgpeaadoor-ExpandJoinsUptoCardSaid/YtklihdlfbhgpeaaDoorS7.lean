/-
  The walk of short: a word of twelve parts at most, of sixty bytes at most, so deep. No conditions.
-/
import Derived.Test.YtklihdlfbhgpeaaDoorJA
namespace Go.Proofs.YtklihdlfbhgpeaaDoor
open Go.RowKit
set_option linter.unusedVariables false

/-- What short hands back. -/
def ShortC [Inhabited LowT] (d : Nat) (W0 : World) (ps : List PartV) (A : Option Addr) (c : Nat) (w : World) : Prop :=
  Calls Tryd.prog 7 #[.slice A ps.length c, .int .i64 (d : Nat)] w fun e w' => ∃ v, e = .returned v ∧ ∃ l, Hid (l.map PartL.p = shortV d ps ∧ SAt d w' w.heap.size v l ∧ Below w.heap.size w w')
set_option maxRecDepth 100000 in
set_option maxHeartbeats 4000000 in
theorem short_zero [Inhabited LowT] (W0 : World) (hL : W0.heap.size ≤ lowN + 1) (ps : List PartV) (A : Option Addr) (c : Nat) (w : World) (hP : ∀ n, PC n W0 A ps) (hW : Below W0.heap.size W0 w) (hlow : lowN < w.heap.size) (hlen : ps.length ≤ maxLen) : ShortC 0 W0 ps A c w := by
  unfold ShortC
  obtain ⟨i47, hi, hz0, hz1, hz2⟩ := info_parts infoP
  obtain ⟨K, hK⟩ : ∃ K, K = min ps.length 12 := ⟨_, rfl⟩
  have HP := hid hP
  have HL := hid (And.intro hL hlow)
  have HK := hid (And.intro hK hlen)
  clear hP hK
  have hF0 : Hid (SI 0 W0 w w ps 0 (.slice none 0 0) []) := hid ⟨hW, Below.refl _ _, SAt.nil _ _ _, rfl⟩
  have hlenI : (ps.length : Int) ≤ (maxLen : Int) := by omega
  clear hW hlow hL
  go_enter Tryd.func7, Tryd.ntmps7
  go_wp2_with fail
  go_loopg [5, 6] K (fun m v5 v6 wr => ∃ (k : Nat) (l : List PartL), m + k = K ∧ v6 = .int .i64 k ∧ l.length = k ∧ Hid (SI 0 W0 w wr ps k v5 l))
  case atStart => exact ⟨0, [], by omega, rfl, rfl, hF0⟩
  case round =>
    obtain ⟨k, l, hm, rfl, hlk, HF⟩ := hrel
    have HM := hid hm
    clear hm
    by_cases hk : k < K
    · have hk8 : (k : Int) < 12 := by have := HK.out.1; omega
      have hkl : k < ps.length := by have := HK.out.1; omega
      have hklI : (k : Int) < (ps.length : Int) := by omega
      obtain ⟨p, hp⟩ : ∃ p, ps[k]? = some p := ⟨_, List.getElem?_eq_getElem hkl⟩
      obtain ⟨b, off, A', c', B, hA, hI⟩ := PC.part HP.out k p hp
      subst hA
      have HI := hid hI
      have x0 := cell_blw hI.x0 HF.out.old
      have x1 := cell_blw hI.x1 HF.out.old
      have x2 := cell_blw hI.x2 HF.out.old
      have x3 := cell_blw hI.x3 HF.out.old
      have x4 := cell_blw hI.x4 HF.out.old
      have x5 := cell_blw hI.x5 HF.out.old
      have HPK := hid hp
      clear hI hp
      obtain ⟨tx, htx⟩ : ∃ t, t = p.text := ⟨_, rfl⟩
      obtain ⟨pl, hpl⟩ : ∃ n, n = p.word.length := ⟨_, rfl⟩
      rw [← htx] at x1
      rw [← hpl] at x4
      have HTX := hid (And.intro htx hpl)
      obtain ⟨m1, hm1⟩ : ∃ m, m = min tx.length 60 := ⟨_, rfl⟩
      have f1 : min (tx.length : Int) 60 = (m1 : Int) := by omega
      have f2 : (m1 : Int) ≤ (tx.length : Int) := by omega
      have ha2 : tx.take m1 = cut60 tx := cut_min tx m1 60 hm1
      have HAB := hid ha2
      clear hm1 ha2 htx hpl
      go_upto_region 6 with fail
      obtain ⟨W5, hW5⟩ : ∃ W5, W5 = wr.alloc (.cells #[.int .i64 p.kind, .string ⟨tx.toArray⟩, .string ⟨p.op.toArray⟩, .bool p.q, .slice A' pl c', .pointer B] 47) := ⟨_, rfl⟩
      have hA5 : At W5 wr.heap.size 47 #[.int .i64 p.kind, .string ⟨tx.toArray⟩, .string ⟨p.op.toArray⟩, .bool p.q, .slice A' pl c', .pointer B] := by rw [hW5]; exact heap_alloc_new wr _
      have hB5 : Below wr.heap.size wr W5 := by rw [hW5]; exact (Below.refl _ _).alloc (Nat.le_refl _) _
      rw [← hW5]
      clear hW5
      have hA6 := hA5.set 1 (.string ⟨(tx.take m1).toArray⟩)
      have hA7 := hA6.set 4 (.slice none 0 0)
      have hK7 : Kw (fun g t => g = wr.heap.size ∧ t = 47) W5 ((W5.setCell ⟨wr.heap.size, 1, none⟩ (.string ⟨(tx.take m1).toArray⟩)).setCell ⟨wr.heap.size, 4, none⟩ (.slice none 0 0)) := ((Kw.refl _ _).set hA5 ⟨rfl, rfl⟩ 1 _).set hA6 ⟨rfl, rfl⟩ 4 _
      have hB7 : Below wr.heap.size wr ((W5.setCell ⟨wr.heap.size, 1, none⟩ (.string ⟨(tx.take m1).toArray⟩)).setCell ⟨wr.heap.size, 4, none⟩ (.slice none 0 0)) := hB5.trans (hK7.toBelow hB5.size fun g t hh => by omega)
      have y1 : W5.cell? ⟨wr.heap.size, 1, none⟩ = some (.string ⟨tx.toArray⟩) := by rw [hA5.cell]; rfl
      have y4 : (W5.setCell ⟨wr.heap.size, 1, none⟩ (.string ⟨(tx.take m1).toArray⟩)).cell? ⟨wr.heap.size, 4, none⟩ = some (.slice A' pl c') := by rw [hA6.cell]; rfl
      have g1 := hA5.frozen 1
      have g4 := hA6.frozen 4
      have HA7 := hid hA7
      have HB7 := hid hB7
      clear hA5 hA6 hA7 hK7 hB7 hB5 x0 x1 x2 x3 x4 x5
      go_upto_region 8 with fail
      obtain ⟨W7, hW7⟩ : ∃ W7, W7 = (W5.setCell ⟨wr.heap.size, 1, none⟩ (.string ⟨(tx.take m1).toArray⟩)).setCell ⟨wr.heap.size, 4, none⟩ (.slice none 0 0) := ⟨_, rfl⟩
      rw [← hW7]
      have hA7 : At W7 wr.heap.size 47 #[.int .i64 p.kind, .string ⟨(tx.take m1).toArray⟩, .string ⟨p.op.toArray⟩, .bool p.q, .slice none 0 0, .pointer B] := by rw [hW7]; exact HA7.out
      have hB7 : Below wr.heap.size wr W7 := by rw [hW7]; exact HB7.out
      clear hW7 HA7 HB7 y1 y4 g1 g4 W5
      have hF7 := HF.out.below hB7
      obtain ⟨xb, hxb⟩ : ∃ x, x = wr.heap.size := ⟨_, rfl⟩
      rw [← hxb] at hA7
      rw [← hxb]
      have hxl := hA7.lt
      have hown : ∀ r, u5.ownBlock = some r → r < xb := fun r hr => by
        obtain ⟨cur, hc⟩ := own_cells HF.out.at_.1 hr
        have := (Array.getElem?_eq_some_iff.1 hc).1
        omega
      have hwx : w.heap.size ≤ xb := by have := HF.out.bel.size; omega
      have HF7 := hid hF7
      have HB7 := hid hB7
      have HXB := hid hxb
      have HO := hid (And.intro hown hwx)
      clear hown hF7 hB7 hwx hxb
      have hce : [Value.int .i64 p.kind, .string ⟨(tx.take m1).toArray⟩, .string ⟨p.op.toArray⟩, .bool p.q, .slice none 0 0, .pointer B] = PartL.cells ⟨shP 0 p, none, 0, B⟩ := by
        rw [HAB.out, HTX.out.1]
        rfl
      have HCE := hid hce
      clear hce
      go_upto_region 10 with fail
      have y0 : W7.cell? ⟨xb, 0, none⟩ = some (.int .i64 p.kind) := by rw [hA7.cell]; rfl
      have y1 : W7.cell? ⟨xb, 1, none⟩ = some (.string ⟨(tx.take m1).toArray⟩) := by rw [hA7.cell]; rfl
      have y2 : W7.cell? ⟨xb, 2, none⟩ = some (.string ⟨p.op.toArray⟩) := by rw [hA7.cell]; rfl
      have y3 : W7.cell? ⟨xb, 3, none⟩ = some (.bool p.q) := by rw [hA7.cell]; rfl
      have y4 : W7.cell? ⟨xb, 4, none⟩ = some (.slice none 0 0) := by rw [hA7.cell]; rfl
      have y5 : W7.cell? ⟨xb, 5, none⟩ = some (.pointer B) := by rw [hA7.cell]; rfl
      have hnw := World.news_of_block (cs := #[.int .i64 p.kind, .string ⟨(tx.take m1).toArray⟩, .string ⟨p.op.toArray⟩, .bool p.q, .slice none 0 0, .pointer B]) (heap_alloc_new W7 (.cells #[.int .i64 p.kind, .string ⟨(tx.take m1).toArray⟩, .string ⟨p.op.toArray⟩, .bool p.q, .slice none 0 0, .pointer B] 47))
      have HNW := hid hnw
      have hOA := own_alloc HF7.out.at_.1 (.cells #[.int .i64 p.kind, .string ⟨(tx.take m1).toArray⟩, .string ⟨p.op.toArray⟩, .bool p.q, .slice none 0 0, .pointer B] 47)
      have HOA := hid hOA
      have hbs : w.heap.size ≤ W7.heap.size := HF7.out.bel.size
      clear hA7 hnw hOA
      go_wp2_with (at_builtin; refine wpList_append_own_at _ rfl (.tmp 42) (.tmp 44) 22 rfl w.heap.size 47 i47 (.agg #[.int .i64 0, .string ⟨#[]⟩, .string ⟨#[]⟩, .bool false, .slice none 0 0, .pointer none]) 6 80 Tryd.underlying22 hi hz0 hz1 hz2 rfl (by decide) u5 l.length (l.flatMap PartL.cells) rfl HOA.out ⟨W7.heap.size, 0, none⟩ 1 1 [.int .i64 p.kind, .string ⟨(tx.take m1).toArray⟩, .string ⟨p.op.toArray⟩, .bool p.q, .slice none 0 0, .pointer B] rfl rfl HNW.out (by simp [Value.oneCell']) (by unfold maxLen; omega) (by omega) (by simp; omega) ?_; intro v' w3 hown' hgrow hnil hat'; rw [HCE.out] at hown'; have HG := hid (SI.push (HF7.out.below ((Below.refl _ _).alloc (Nat.le_refl _) _)) HL.out.2 HL.out.1 p HPK.out ⟨shP 0 p, none, 0, B⟩ rfl trivial HI.out.body hown' hgrow hat'); clear hown' hgrow hnil hat')
      go_roundg (gk - 1)
      case measure =>
        go_light
        have := HM.out
        omega
      case rel =>
        go_light
        exact ⟨k + 1, l ++ [⟨shP 0 p, none, 0, B⟩], by have := HM.out; omega, int_cast (by omega), by simp [hlk], HG⟩
    · have hke : k = K := by have := HM.out; omega
      subst hke
      have hkg : (¬ (k : Int) < (ps.length : Int)) ∨ ((k : Int) < (ps.length : Int) ∧ ¬ (k : Int) < 12) := by have := HK.out.1; omega
      clear hk
      have HFIN : Hid (l.map PartL.p = shortV 0 ps ∧ SAt 0 wr w.heap.size u5 l ∧ Below w.heap.size w wr) := hid ⟨by rw [HF.out.val, sh_min _ _ _ HK.out.1], HF.out.at_, HF.out.bel⟩
      rcases hkg with hkg | ⟨hkg, hkg2⟩
      all_goals
        go_wp2_with fail
        go_ret
        exact ⟨_, rfl, _, HFIN⟩
set_option maxRecDepth 100000 in
set_option maxHeartbeats 4000000 in
theorem short_succ [Inhabited LowT] (d : Nat) (W0 : World) (hd : d ≤ 3) (hL : W0.heap.size ≤ lowN + 1) (ih : ∀ (ps : List PartV) (A : Option Addr) (c : Nat) (w : World), (∀ n, PC n W0 A ps) → Below W0.heap.size W0 w → lowN < w.heap.size → ps.length ≤ maxLen → ShortC d W0 ps A c w) (ps : List PartV) (A : Option Addr) (c : Nat) (w : World) (hP : ∀ n, PC n W0 A ps) (hW : Below W0.heap.size W0 w) (hlow : lowN < w.heap.size) (hlen : ps.length ≤ maxLen) : ShortC (d + 1) W0 ps A c w := by
  unfold ShortC
  obtain ⟨i47, hi, hz0, hz1, hz2⟩ := info_parts infoP
  obtain ⟨K, hK⟩ : ∃ K, K = min ps.length 12 := ⟨_, rfl⟩
  have HP := hid hP
  have HL := hid (And.intro hL hlow)
  have HK := hid (And.intro hK hlen)
  have IH := hid ih
  clear hP hK ih
  have hF0 : Hid (SI (d + 1) W0 w w ps 0 (.slice none 0 0) []) := hid ⟨hW, Below.refl _ _, SAt.nil _ _ _, rfl⟩
  have hlenI : (ps.length : Int) ≤ (maxLen : Int) := by omega
  clear hW hlow hL
  obtain ⟨dI, hdI⟩ : ∃ dI : Int, dI = ((d + 1 : Nat) : Int) := ⟨_, rfl⟩
  rw [← hdI]
  have hd0 : 0 < dI := by omega
  have hd1 : dI - 1 = (d : Int) := by omega
  have hd2 : dI ≤ 4 := by omega
  have HDI := hid hdI
  clear hdI
  go_enter Tryd.func7, Tryd.ntmps7
  go_wp2_with fail
  go_loopg [5, 6] K (fun m v5 v6 wr => ∃ (k : Nat) (l : List PartL), m + k = K ∧ v6 = .int .i64 k ∧ l.length = k ∧ Hid (SI (d + 1) W0 w wr ps k v5 l))
  case atStart => exact ⟨0, [], by omega, rfl, rfl, hF0⟩
  case round =>
    obtain ⟨k, l, hm, rfl, hlk, HF⟩ := hrel
    have HM := hid hm
    clear hm
    by_cases hk : k < K
    · have hk8 : (k : Int) < 12 := by have := HK.out.1; omega
      have hkl : k < ps.length := by have := HK.out.1; omega
      have hklI : (k : Int) < (ps.length : Int) := by omega
      obtain ⟨p, hp⟩ : ∃ p, ps[k]? = some p := ⟨_, List.getElem?_eq_getElem hkl⟩
      obtain ⟨b, off, A', c', B, hA, hI⟩ := PC.part HP.out k p hp
      subst hA
      have HI := hid hI
      have x0 := cell_blw hI.x0 HF.out.old
      have x1 := cell_blw hI.x1 HF.out.old
      have x2 := cell_blw hI.x2 HF.out.old
      have x3 := cell_blw hI.x3 HF.out.old
      have x4 := cell_blw hI.x4 HF.out.old
      have x5 := cell_blw hI.x5 HF.out.old
      have HPK := hid hp
      clear hI hp
      obtain ⟨tx, htx⟩ : ∃ t, t = p.text := ⟨_, rfl⟩
      obtain ⟨pl, hpl⟩ : ∃ n, n = p.word.length := ⟨_, rfl⟩
      rw [← htx] at x1
      rw [← hpl] at x4
      have HTX := hid (And.intro htx hpl)
      obtain ⟨m1, hm1⟩ : ∃ m, m = min tx.length 60 := ⟨_, rfl⟩
      have f1 : min (tx.length : Int) 60 = (m1 : Int) := by omega
      have f2 : (m1 : Int) ≤ (tx.length : Int) := by omega
      have ha2 : tx.take m1 = cut60 tx := cut_min tx m1 60 hm1
      have HAB := hid ha2
      clear hm1 ha2 htx hpl
      go_upto_region 6 with fail
      obtain ⟨W5, hW5⟩ : ∃ W5, W5 = wr.alloc (.cells #[.int .i64 p.kind, .string ⟨tx.toArray⟩, .string ⟨p.op.toArray⟩, .bool p.q, .slice A' pl c', .pointer B] 47) := ⟨_, rfl⟩
      have hA5 : At W5 wr.heap.size 47 #[.int .i64 p.kind, .string ⟨tx.toArray⟩, .string ⟨p.op.toArray⟩, .bool p.q, .slice A' pl c', .pointer B] := by rw [hW5]; exact heap_alloc_new wr _
      have hB5 : Below wr.heap.size wr W5 := by rw [hW5]; exact (Below.refl _ _).alloc (Nat.le_refl _) _
      rw [← hW5]
      clear hW5
      have hA6 := hA5.set 1 (.string ⟨(tx.take m1).toArray⟩)
      have hA7 := hA6.set 4 (.slice none 0 0)
      have hK7 : Kw (fun g t => g = wr.heap.size ∧ t = 47) W5 ((W5.setCell ⟨wr.heap.size, 1, none⟩ (.string ⟨(tx.take m1).toArray⟩)).setCell ⟨wr.heap.size, 4, none⟩ (.slice none 0 0)) := ((Kw.refl _ _).set hA5 ⟨rfl, rfl⟩ 1 _).set hA6 ⟨rfl, rfl⟩ 4 _
      have hB7 : Below wr.heap.size wr ((W5.setCell ⟨wr.heap.size, 1, none⟩ (.string ⟨(tx.take m1).toArray⟩)).setCell ⟨wr.heap.size, 4, none⟩ (.slice none 0 0)) := hB5.trans (hK7.toBelow hB5.size fun g t hh => by omega)
      have y1 : W5.cell? ⟨wr.heap.size, 1, none⟩ = some (.string ⟨tx.toArray⟩) := by rw [hA5.cell]; rfl
      have y4 : (W5.setCell ⟨wr.heap.size, 1, none⟩ (.string ⟨(tx.take m1).toArray⟩)).cell? ⟨wr.heap.size, 4, none⟩ = some (.slice A' pl c') := by rw [hA6.cell]; rfl
      have g1 := hA5.frozen 1
      have g4 := hA6.frozen 4
      have HA7 := hid hA7
      have HB7 := hid hB7
      clear hA5 hA6 hA7 hK7 hB7 hB5 x0 x1 x2 x3 x4 x5
      go_upto_region 8 with fail
      obtain ⟨W7, hW7⟩ : ∃ W7, W7 = (W5.setCell ⟨wr.heap.size, 1, none⟩ (.string ⟨(tx.take m1).toArray⟩)).setCell ⟨wr.heap.size, 4, none⟩ (.slice none 0 0) := ⟨_, rfl⟩
      rw [← hW7]
      have hA7 : At W7 wr.heap.size 47 #[.int .i64 p.kind, .string ⟨(tx.take m1).toArray⟩, .string ⟨p.op.toArray⟩, .bool p.q, .slice none 0 0, .pointer B] := by rw [hW7]; exact HA7.out
      have hB7 : Below wr.heap.size wr W7 := by rw [hW7]; exact HB7.out
      clear hW7 HA7 HB7 y1 y4 g1 g4 W5
      have hF7 := HF.out.below hB7
      obtain ⟨xb, hxb⟩ : ∃ x, x = wr.heap.size := ⟨_, rfl⟩
      rw [← hxb] at hA7
      rw [← hxb]
      have hxl := hA7.lt
      have hown : ∀ r, u5.ownBlock = some r → r < xb := fun r hr => by
        obtain ⟨cur, hc⟩ := own_cells HF.out.at_.1 hr
        have := (Array.getElem?_eq_some_iff.1 hc).1
        omega
      have hwx : w.heap.size ≤ xb := by have := HF.out.bel.size; omega
      have HF7 := hid hF7
      have HB7 := hid hB7
      have HXB := hid hxb
      have HO := hid (And.intro hown hwx)
      clear hown hF7 hB7 hwx hxb
      have x4 := cell_blw HI.out.x4 HF7.out.old
      have hc := IH.out p.word A' c' W7 HI.out.word HF7.out.old (by have := HL.out.2; have := HO.out.2; omega) HI.out.len
      unfold ShortC at hc
      rw [← HTX.out.2] at hc
      rw [← HTX.out.2] at x4
      have HC := hid hc
      have HA7 := hid hA7
      clear hc hA7
      go_upto_region 10 with (go_at_call 7; go_loud (refine HC.out.mono ?_; rintro e w8 ⟨v8, rfl, l8, HS8⟩; obtain ⟨A8, c8, rfl, hX8⟩ := HS8.out.2.1.pattX; have hA8 := HA7.out.below HS8.out.2.2 HA7.out.lt; have y4 : w8.cell? ⟨xb, 4, none⟩ = some (.slice none 0 0) := (hA8.cell 4).trans rfl; have g4 := hA8.frozen 4; have HX8 := hid (And.intro hX8 hA8); clear hX8 hA8))
      obtain ⟨W9, hW9⟩ : ∃ W9, W9 = w8.setCell ⟨xb, 4, none⟩ (.slice A8 l8.length c8) := ⟨_, rfl⟩
      rw [← hW9]
      have hA9 : At W9 xb 47 #[.int .i64 p.kind, .string ⟨(tx.take m1).toArray⟩, .string ⟨p.op.toArray⟩, .bool p.q, .slice A8 l8.length c8, .pointer B] := by rw [hW9]; exact HX8.out.2.set 4 _
      have hK9 : Kw (fun g t => g = xb ∧ t = 47) w8 W9 := by rw [hW9]; exact (Kw.refl _ _).set HX8.out.2 ⟨rfl, rfl⟩ 4 _
      have HF9 : Hid (SI (d + 1) W0 w W9 ps k u5 l) := by
        have h1 := HB7.out.trans (HS8.out.2.2.mono HB7.out.size)
        exact hid (HF.out.below (h1.trans (hK9.toBelow h1.size fun g t hh => by have := HXB.out; omega)))
      have hWD : PAtX (fun k => u5.ownBlock = some k ∨ k < w.heap.size) (d + 1) (W9.alloc (.cells #[.int .i64 p.kind, .string ⟨(tx.take m1).toArray⟩, .string ⟨p.op.toArray⟩, .bool p.q, .slice A8 l8.length c8, .pointer B] 47)) A8 (shortV d p.word) := by
        rw [← HS8.out.1]
        have h1 : PAtX (fun k => u5.ownBlock = some k ∨ k < w.heap.size) (d + 1) W9 A8 (l8.map PartL.p) := HX8.out.1.kw hK9 (fun k hk hh => hk (by rw [hh.1]; exact hxl)) (fun k hh => absurd hh.2 (by decide)) (fun k t hk hh => by have := HL.out.2; have := HO.out.2; omega) (fun k _ hh => by
          rcases hh with hh | hh
          · have := HO.out.1 k hh; omega
          · have := HO.out.2; omega)
        exact h1.kw (M := fun _ _ => False) (Kw.below ((Below.refl _ _).alloc (Nat.le_refl _) _)) (fun _ _ h => h) (fun _ h => h) (fun _ _ _ h => h) (fun _ _ h => h)
      have hce : [Value.int .i64 p.kind, .string ⟨(tx.take m1).toArray⟩, .string ⟨p.op.toArray⟩, .bool p.q, .slice A8 l8.length c8, .pointer B] = PartL.cells ⟨shP (d + 1) p, A8, c8, B⟩ := by
        have h1 : l8.length = (shortV d p.word).length := by rw [← HS8.out.1, List.length_map]
        rw [h1, HAB.out, HTX.out.1]
        rfl
      have HWD := hid hWD
      have HCE := hid hce
      clear hK9 hWD hce hW9 HX8 HS8 HC HA7 y4 g4 x4
      have y0 : W9.cell? ⟨xb, 0, none⟩ = some (.int .i64 p.kind) := by rw [hA9.cell]; rfl
      have y1 : W9.cell? ⟨xb, 1, none⟩ = some (.string ⟨(tx.take m1).toArray⟩) := by rw [hA9.cell]; rfl
      have y2 : W9.cell? ⟨xb, 2, none⟩ = some (.string ⟨p.op.toArray⟩) := by rw [hA9.cell]; rfl
      have y3 : W9.cell? ⟨xb, 3, none⟩ = some (.bool p.q) := by rw [hA9.cell]; rfl
      have y4 : W9.cell? ⟨xb, 4, none⟩ = some (.slice A8 l8.length c8) := by rw [hA9.cell]; rfl
      have y5 : W9.cell? ⟨xb, 5, none⟩ = some (.pointer B) := by rw [hA9.cell]; rfl
      have hnw := World.news_of_block (cs := #[.int .i64 p.kind, .string ⟨(tx.take m1).toArray⟩, .string ⟨p.op.toArray⟩, .bool p.q, .slice A8 l8.length c8, .pointer B]) (heap_alloc_new W9 (.cells #[.int .i64 p.kind, .string ⟨(tx.take m1).toArray⟩, .string ⟨p.op.toArray⟩, .bool p.q, .slice A8 l8.length c8, .pointer B] 47))
      have HNW := hid hnw
      have hOA := own_alloc HF9.out.at_.1 (.cells #[.int .i64 p.kind, .string ⟨(tx.take m1).toArray⟩, .string ⟨p.op.toArray⟩, .bool p.q, .slice A8 l8.length c8, .pointer B] 47)
      have HOA := hid hOA
      have hbs : w.heap.size ≤ W9.heap.size := HF9.out.bel.size
      clear hA9 hnw hOA
      go_wp2_with (at_builtin; refine wpList_append_own_at _ rfl (.tmp 42) (.tmp 44) 22 rfl w.heap.size 47 i47 (.agg #[.int .i64 0, .string ⟨#[]⟩, .string ⟨#[]⟩, .bool false, .slice none 0 0, .pointer none]) 6 80 Tryd.underlying22 hi hz0 hz1 hz2 rfl (by decide) u5 l.length (l.flatMap PartL.cells) rfl HOA.out ⟨W9.heap.size, 0, none⟩ 1 1 [.int .i64 p.kind, .string ⟨(tx.take m1).toArray⟩, .string ⟨p.op.toArray⟩, .bool p.q, .slice A8 l8.length c8, .pointer B] rfl rfl HNW.out (by simp [Value.oneCell']) (by unfold maxLen; omega) (by omega) (by simp; omega) ?_; intro v' w3 hown' hgrow hnil hat'; rw [HCE.out] at hown'; have HG := hid (SI.push (HF9.out.below ((Below.refl _ _).alloc (Nat.le_refl _) _)) HL.out.2 HL.out.1 p HPK.out ⟨shP (d + 1) p, A8, c8, B⟩ rfl HWD.out HI.out.body hown' hgrow hat'); clear hown' hgrow hnil hat')
      go_roundg (gk - 1)
      case measure =>
        go_light
        have := HM.out
        omega
      case rel =>
        go_light
        exact ⟨k + 1, l ++ [⟨shP (d + 1) p, A8, c8, B⟩], by have := HM.out; omega, int_cast (by omega), by simp [hlk], HG⟩
    · have hke : k = K := by have := HM.out; omega
      subst hke
      have hkg : (¬ (k : Int) < (ps.length : Int)) ∨ ((k : Int) < (ps.length : Int) ∧ ¬ (k : Int) < 12) := by have := HK.out.1; omega
      clear hk
      have HFIN : Hid (l.map PartL.p = shortV (d + 1) ps ∧ SAt (d + 1) wr w.heap.size u5 l ∧ Below w.heap.size w wr) := hid ⟨by rw [HF.out.val, sh_min _ _ _ HK.out.1], HF.out.at_, HF.out.bel⟩
      rcases hkg with hkg | ⟨hkg, hkg2⟩
      all_goals
        go_wp2_with fail
        go_ret
        exact ⟨_, rfl, _, HFIN⟩
theorem short_any [Inhabited LowT] (W0 : World) (hL : W0.heap.size ≤ lowN + 1) : ∀ (d : Nat), d ≤ 4 → ∀ (ps : List PartV) (A : Option Addr) (c : Nat) (w : World), (∀ n, PC n W0 A ps) → Below W0.heap.size W0 w → lowN < w.heap.size → ps.length ≤ maxLen → ShortC d W0 ps A c w
  | 0, _, ps, A, c, w, h1, h2, h3, h4 => short_zero W0 hL ps A c w h1 h2 h3 h4
  | d + 1, hd, ps, A, c, w, h1, h2, h3, h4 => short_succ d W0 (by omega) hL (short_any W0 hL d (by omega)) ps A c w h1 h2 h3 h4
end Go.Proofs.YtklihdlfbhgpeaaDoor
