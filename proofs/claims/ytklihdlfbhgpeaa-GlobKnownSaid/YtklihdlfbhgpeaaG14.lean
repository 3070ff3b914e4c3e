/-
  The walks of the reference's match at every list, of its Match and its Magic.
-/
import Derived.Test.YtklihdlfbhgpeaaG13
namespace Go.Proofs.Ytklihdlfbhgpeaa
open Go.RowKit
set_option linter.unusedVariables false

set_option maxRecDepth 100000 in
theorem refMatch_nil (A : Option Addr) (c : Nat) (s : List UInt8) (w : World) :
    Calls Try.prog 27 #[.slice A 0 c, .string ⟨s.toArray⟩] w fun e w' => e = .returned (.bool (matchP (pieces []) s)) ∧ Below w.heap.size w w' := by
  go_enter Try.func27, Try.ntmps27
  go_wp2_with fail
  go_ret
  exact ⟨ret_bool (by rw [pieces_nil, matchP_nil]), Below.refl _ _⟩
theorem recOk : ∀ n, RecOk n
  | 0 => fun l A c s w hn hc hcm hl hs hr => by
    obtain rfl : l = [] := List.length_eq_zero_iff.1 (by omega)
    exact refMatch_nil A c s w
  | n + 1 => fun l A c s w hn hc hcm hl hs hr => by
    by_cases h0 : 0 < l.length
    · obtain ⟨b, off, rfl, _⟩ := hr.2 h0
      exact refMatch_step n (recOk n) b off c l s w h0 hn hc hcm hl hs hr
    · obtain rfl : l = [] := List.length_eq_zero_iff.1 (by omega)
      exact refMatch_nil A c s w

set_option maxRecDepth 100000 in
set_option maxHeartbeats 1000000 in
theorem refMatch_any (A : Option Addr) (c : Nat) (rs : List RunV) (s : List UInt8) (hs : s.length ≤ 1000000) (w : World) (hp : Pat w A rs) :
    Calls Try.prog 12 #[.slice A rs.length c, .string ⟨s.toArray⟩] w fun e w' => e = .returned (.bool (matchP (pieces (chs rs)) s)) ∧ Below w.heap.size w w' := by
  have HC := hid (refChars_any A c rs w hp)
  have hall := hp.all
  clear hp
  go_enter Try.func12, Try.ntmps12
  go_wp2_with fail
  refine HC.out.mono ?_
  rintro e w1 ⟨⟨B, d, rfl, hd1, hd2, hcs⟩, hB1⟩
  have HM := hid (recOk (chs rs).length (chs rs) B d s w1 (Nat.le_refl _) hd1 hd2 hall hs hcs)
  obtain ⟨o, ho⟩ : ∃ o, o = matchP (pieces (chs rs)) s := ⟨_, rfl⟩
  rw [← ho] at HM
  have HO := hid ho
  clear hcs ho
  go_wp2_with fail
  refine HM.out.mono ?_
  rintro e w2 ⟨rfl, hB2⟩
  have hB3 := hB1.trans (hB2.mono hB1.size)
  clear HM
  go_wp2_with fail
  go_ret
  exact ⟨by rw [← HO.out]; rfl, hB3⟩
/-- A character's answers as magic asks them. -/
theorem magic_step {l : List Ch} {i : Nat} (h : i < l.length) (hm : magicL l = magicL (l.drop i)) :
    magicL l = ((setOf (l.drop i)).isSome || isC (l.getD i (0, true)) 42 || isC (l.getD i (0, true)) 63 || magicL (l.drop (i + 1))) := by
  have hz : (l.drop i).getD 0 (0, true) = l.getD i (0, true) := drop_get (by omega)
  rw [hm, magic_drop l i h, specialAt, hz]
theorem refSetV_pos {l : List Ch} {b : UInt8} : (0 < (refSetV l b).1 ↔ (setOf l).isSome = true) := by
  cases h : setOf l with
  | none => rw [refSetV_none h]; simp
  | some r =>
    obtain ⟨neg, ins, n⟩ := r
    have := (setOf_len h).1
    rw [refSetV_some h]
    simp
    omega
set_option maxRecDepth 100000 in
set_option maxHeartbeats 2000000 in
theorem refMagic_any (A : Option Addr) (c : Nat) (rs : List RunV) (w : World) (hp : Pat w A rs) :
    Calls Try.prog 20 #[.slice A rs.length c] w fun e w' => e = .returned (.bool (magicL (chs rs))) ∧ Below w.heap.size w w' := by
  have HC := hid (refChars_any A c rs w hp)
  have hall := hp.all
  clear hp
  go_enter Try.func20, Try.ntmps20
  go_wp2_with fail
  refine HC.out.mono ?_
  rintro e w1 ⟨⟨B, d, rfl, hd1, hd2, hcs⟩, hB1⟩
  obtain ⟨L, hL⟩ : ∃ L, L = chs rs := ⟨_, rfl⟩
  rw [← hL] at hd1 hcs hall ⊢
  have HL := hid hL
  have HCS := hid hcs
  have hLI : (L.length : Int) ≤ 1000000 := by omega
  unfold maxLen at hd2
  clear hL hcs HC
  go_wp2_with fail
  go_loopg [4] L.length (fun m v4 wr => ∃ i : Nat, m + i = L.length ∧ v4 = .int .i64 i ∧ magicL L = magicL (L.drop i) ∧ Below w1.heap.size w1 wr)
  case atStart => exact ⟨0, rfl, rfl, rfl, Below.refl _ _⟩
  case round =>
    obtain ⟨i, hm, rfl, hmg, hB⟩ := hrel
    have HM := hid hm
    clear hm
    by_cases hlt : i < L.length
    · have hms := magic_step hlt hmg
      have hcs := HCS.out.below hB
      have hcc := Cs.cutA hcs (c := d) (k := i) hd1
      obtain ⟨b, off, rfl, hb, _⟩ := Cs.at_ hcs hlt
      obtain ⟨x1, x2⟩ := Cs.cell hcs hlt
      have hiI : (i : Int) < L.length := by omega
      have hiJ : (i : Int) ≤ L.length := by omega
      have hiD : (i : Int) ≤ d := by omega
      have hid' : ¬ d = i := by omega
      unfold cutA at hcc
      rw [if_neg hid', cut_some] at hcc
      have hdl : (L.drop i).length = L.length - i := by simp
      have hse := refSet_any _ (d - i) (L.drop i) 0 (by omega) wr hcc
      rw [hdl] at hse
      have hpos := refSetV_pos (l := L.drop i) (b := 0)
      obtain ⟨n, hn⟩ : ∃ n, n = (refSetV (L.drop i) 0).1 := ⟨_, rfl⟩
      obtain ⟨o, ho⟩ : ∃ o, o = (refSetV (L.drop i) 0).2 := ⟨_, rfl⟩
      rw [← hn, ← ho] at hse
      rw [← hn] at hpos
      obtain ⟨ch, hch⟩ : ∃ ch, ch = L.getD i (0, true) := ⟨_, rfl⟩
      rw [← hch] at x1 x2 hms
      have HSE := hid hse
      have HMS := hid hms
      have HPOS := hid hpos
      clear hse hms hpos hn ho hch hcc hcs hmg hdl
      go_wp2_with fail
      refine HSE.out.mono ?_
      rintro e w2 ⟨rfl, hB2⟩
      have x1 := (hB2.cell (p := ⟨b, off + i * 2, none⟩) hb).trans x1
      have x2 := (hB2.cell (p := ⟨b, off + i * 2 + 1, none⟩) hb).trans x2
      have hb2 : b < w2.heap.size := Nat.lt_of_lt_of_le hb hB2.size
      have hB3 := hB.trans (hB2.mono hB.size)
      clear hB2 hB HSE
      by_cases hn0 : 0 < n
      · have HY : Hid (magicL L = true) := hid (by rw [HMS.out, HPOS.out.1 hn0]; rfl)
        go_wp2_with fail
        go_ret
        exact ⟨by rw [← HL.out, HY.out]; rfl, hB1.trans (hB3.mono hB1.size)⟩
      · have hns : (setOf (L.drop i)).isSome = false := by
          rw [← Bool.not_eq_true]
          exact fun h => hn0 (HPOS.out.2 h)
        have HNS := hid hns
        clear hns
        go_wp2_with fail
        refine (refIs_any ch 42 _).mono ?_
        rintro e w4 ⟨rfl, hB4⟩
        have x1 := (hB4.cell (p := ⟨b, off + i * 2, none⟩) hb2).trans x1
        have x2 := (hB4.cell (p := ⟨b, off + i * 2 + 1, none⟩) hb2).trans x2
        have hB5 := hB3.trans (hB4.mono hB3.size)
        clear hB3 hB4
        cases h42 : isC ch 42 with
        | true =>
          have HY : Hid (magicL L = true) := hid (by rw [HMS.out, h42]; simp)
          clear h42
          go_wp2_with fail
          go_ret
          exact ⟨by rw [← HL.out, HY.out]; rfl, hB1.trans (hB5.mono hB1.size)⟩
        | false =>
          have H42 := hid h42
          clear h42
          go_wp2_with fail
          refine (refIs_any ch 63 _).mono ?_
          rintro e w6 ⟨rfl, hB6⟩
          have hB7 := hB5.trans (hB6.mono hB5.size)
          clear hB5 hB6 x1 x2
          cases h63 : isC ch 63 with
          | true =>
            have HY : Hid (magicL L = true) := hid (by rw [HMS.out, h63]; simp)
            clear h63
            go_wp2_with fail
            go_ret
            exact ⟨by rw [← HL.out, HY.out]; rfl, hB1.trans (hB7.mono hB1.size)⟩
          | false =>
            have HY : Hid (magicL L = magicL (L.drop (i + 1))) := hid (by rw [HMS.out, HNS.out, H42.out, h63]; rfl)
            clear h63
            go_wp2_with fail
            go_roundg (gk - 1)
            case measure => go_light; have := HM.out; omega
            case rel =>
              go_light
              have := HM.out
              exact ⟨i + 1, by omega, int_cast (by omega), HY.out, hB7⟩
    · have := HM.out
      obtain rfl : i = L.length := by omega
      rw [List.drop_length] at hmg
      have HMG := hid hmg
      clear this hlt hmg
      go_wp2_with fail
      go_ret
      exact ⟨by rw [← HL.out, HMG.out]; rfl, hB1.trans (hB.mono hB1.size)⟩
end Go.Proofs.Ytklihdlfbhgpeaa
