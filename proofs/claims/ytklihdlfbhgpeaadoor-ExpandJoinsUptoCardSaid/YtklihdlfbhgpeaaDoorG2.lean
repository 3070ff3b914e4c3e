/-
  The walks of the library's IndexFunc over characters, of a set's closure, and of the program's set.
-/
import Derived.Test.YtklihdlfbhgpeaaDoorG1
namespace Go.Proofs.YtklihdlfbhgpeaaDoor
open Go.RowKit
set_option linter.unusedVariables false

/-- Where a list's first ] stands; -1: nowhere. -/
def idxI (l : List Ch) : Int := match endAt l with | none => -1 | some k => (k : Int)
theorem endAt_none {l : List Ch} (h : ∀ j, j < l.length → isC (l.getD j (0, true)) 93 = false) : endAt l = none := by
  unfold endAt
  rw [List.findIdx?_eq_none_iff]
  intro c hc
  obtain ⟨j, hj, rfl⟩ := List.mem_iff_getElem.1 hc
  have := h j hj
  rwa [List.getD, List.getElem?_eq_getElem hj] at this
theorem endAt_some {l : List Ch} {k : Nat} (hk : k < l.length) (h : ∀ j, j < k → isC (l.getD j (0, true)) 93 = false) (hh : isC (l.getD k (0, true)) 93 = true) : endAt l = some k := by
  unfold endAt
  rw [List.findIdx?_eq_some_iff_getElem]
  refine ⟨hk, by rwa [List.getD, List.getElem?_eq_getElem hk] at hh, fun j hj => ?_⟩
  have := h j hj
  rw [List.getD, List.getElem?_eq_getElem (by omega)] at this
  simpa using this

set_option maxRecDepth 100000 in
set_option maxHeartbeats 400000 in
theorem indexFunc_any (A : Option Addr) (c : Nat) (l : List Ch) (hl : l.length ≤ 1000000000) (w : World) (hr : Cs w A l) :
    Calls Tryd.prog 72 #[.slice A l.length c, .func (.func 73) #[] #[]] w fun e w' => e = .returned (.int .i64 (idxI l)) ∧ Below w.heap.size w w' := by
  have hlI : (l.length : Int) ≤ 1000000000 := by omega
  have HR := hid hr
  clear hr
  go_enter Tryd.func72, Tryd.ntmps72
  go_wp2_with fail
  go_loopg [8] l.length (fun m v8 wr => ∃ k : Nat, m + k = l.length ∧ v8 = .int .i64 k ∧ (∀ j, j < k → isC (l.getD j (0, true)) 93 = false) ∧ Below w.heap.size w wr)
  case atStart => exact ⟨0, rfl, rfl, by omega, Below.refl _ _⟩
  case round =>
    obtain ⟨k, hm, rfl, hno, hB⟩ := hrel
    have HN := hid hno
    have HM := hid hm
    clear hno hm
    by_cases hlt : k < l.length
    · obtain ⟨b, off, hA, hb, c1, c2⟩ := Cs.at_ (HR.out.below hB) hlt
      subst hA
      have i1 : (k : Int) < (l.length : Int) := by omega
      have hgd : l.getD k (0, true) = l.getD k (0, true) := rfl
      generalize hc : l.getD k (0, true) = ch at c1 c2
      clear hgd
      have HC := hid hc
      clear hc
      go_wp2_with fail
      refine (isClose_any ch _).mono ?_
      rintro e w1 ⟨rfl, hb1⟩
      have hB1 := hB.trans (hb1.mono hB.size)
      clear hb1 c1 c2
      cases hcl : isC ch 93 with
      | true =>
        have HCL := hid hcl
        clear hcl
        go_wp2_with fail
        go_ret
        exact ⟨by rw [idxI, endAt_some hlt HN.out (by rw [HC.out]; exact HCL.out)]; rfl, hB1⟩
      | false =>
        have HCL := hid hcl
        clear hcl
        go_wp2_with fail
        go_roundg (gk - 1)
        case measure => go_light; have := HM.out; omega
        case rel =>
          go_light
          have := HM.out
          refine ⟨k + 1, by omega, int_cast (by omega), fun j hj => ?_, hB1⟩
          by_cases hjk : j = k
          · subst hjk; rw [HC.out]; exact HCL.out
          · exact HN.out j (by omega)
    · have := HM.out
      obtain rfl : k = l.length := by omega
      clear this hlt
      go_wp2_with fail
      go_ret
      exact ⟨by rw [idxI, endAt_none HN.out]; rfl, hB⟩

theorem drop_ch {l : List Ch} {i : Nat} (h : i < l.length) : l.drop i = l.getD i (0, true) :: l.drop (i + 1) := by
  rw [List.drop_eq_getElem_cons h]
  simp [List.getD, List.getElem?_eq_getElem h]
theorem inSet_range {l : List Ch} {i : Nat} (h : i + 2 < l.length) (hd : isC (l.getD (i + 1) (0, true)) 45 = true) (b : UInt8) :
    inSet (l.drop i) b = ((decide ((l.getD i (0, true)).1 ≤ b) && decide (b ≤ (l.getD (i + 2) (0, true)).1)) || inSet (l.drop (i + 3)) b) := by
  rw [drop_ch (by omega : i < l.length), drop_ch (by omega : i + 1 < l.length), drop_ch h, inSet, if_pos hd]
theorem inSet_single {l : List Ch} {i : Nat} (h : i < l.length) (hd : i + 2 < l.length → isC (l.getD (i + 1) (0, true)) 45 = false) (b : UInt8) :
    inSet (l.drop i) b = (b == (l.getD i (0, true)).1 || inSet (l.drop (i + 1)) b) := by
  rw [drop_ch h]
  by_cases h1 : i + 1 < l.length
  · rw [drop_ch h1]
    by_cases h2 : i + 2 < l.length
    · rw [drop_ch h2, inSet, if_neg (by rw [hd h2]; decide)]
    · rw [List.drop_of_length_le (by omega : l.length ≤ i + 1 + 1), inSet]
      rfl
  · rw [List.drop_of_length_le (by omega : l.length ≤ i + 1), inSet, inSet, Bool.or_false]
theorem u8_eqI (a b : UInt8) : ((a.toNat : Int) == (b.toNat : Int)) = (a == b) := by
  rw [Bool.eq_iff_iff, beq_iff_eq, beq_iff_eq]
  exact ⟨fun h => UInt8.toNat_inj.1 (by omega), fun h => by rw [h]⟩

set_option maxRecDepth 100000 in
set_option maxHeartbeats 1000000 in
theorem setOne_any (b : UInt8) (l : List Ch) (neg : Bool) (hl : l.length ≤ 1000000000) (w : World) (B1 B2 : Nat) (A : Option Addr) (c : Nat) (hb1 : B1 < w.heap.size) (hb2 : B2 < w.heap.size)
    (h1 : w.cell? ⟨B1, 0, none⟩ = some (.slice A l.length c)) (h2 : w.cell? ⟨B2, 0, none⟩ = some (.bool neg)) (hr : Cs w A l) :
    Calls Tryd.prog 74 #[.int .u8 (b.toNat : Int), .pointer (some ⟨B1, 0, none⟩), .pointer (some ⟨B2, 0, none⟩)] w fun e w' => e = .returned (.bool (inSet l b != neg)) ∧ Below w.heap.size w w' := by
  have hlI : (l.length : Int) ≤ 1000000000 := by omega
  have HR := hid hr
  have H1 := hid h1
  have H2 := hid h2
  clear hr h1 h2
  go_enter Tryd.func74, Tryd.ntmps74
  go_wp2_with fail
  go_loopg [5, 6] l.length (fun m v5 v6 wr => ∃ (i : Nat) (acc : Bool), m + i = l.length ∧ v5 = .bool acc ∧ v6 = .int .i64 i ∧ inSet l b = (acc || inSet (l.drop i) b) ∧ Below w.heap.size w wr)
  case atStart => exact ⟨0, false, rfl, rfl, rfl, rfl, Below.refl _ _⟩
  case round =>
    obtain ⟨i, acc, hm, rfl, rfl, hacc, hB⟩ := hrel
    have HA := hid hacc
    have HM := hid hm
    clear hacc hm
    have c1 : wr.cell? ⟨B1, 0, none⟩ = some (.slice A l.length c) := (hB.cell (p := ⟨B1, 0, none⟩) hb1).trans H1.out
    by_cases hlt : i < l.length
    · have hrr := HR.out.below hB
      have i1 : (i : Int) < (l.length : Int) := by omega
      obtain ⟨bl, off, hA, hbl, a1, a2⟩ := Cs.at_ hrr hlt
      subst hA
      by_cases h2 : i + 2 < l.length
      · obtain ⟨d1, d2⟩ := Cs.cell hrr (show i + 1 < l.length by omega)
        obtain ⟨e1, e2⟩ := Cs.cell hrr h2
        have i2 : (i : Int) + 2 < (l.length : Int) := by omega
        have n1 : ((i : Int) + 1).toNat = i + 1 := by omega
        have n2 : ((i : Int) + 2).toNat = i + 2 := by omega
        have hrg := fun hd => inSet_range h2 hd b
        have hsi := fun hd => inSet_single hlt hd b
        generalize (l.getD i (0, true)).1 = x at a1 a2 hrg hsi
        generalize l.getD (i + 1) (0, true) = d at d1 d2 hrg hsi
        generalize (l.getD (i + 2) (0, true)).1 = y at e1 e2 hrg
        have HRG := hid hrg
        have HSI := hid hsi
        clear hrg hsi
        go_wp2_with fail
        refine (is_one d 45 _).mono ?_
        rintro e w1 ⟨rfl, hb⟩
        have hB1 := hB.trans (hb.mono hB.size)
        have a1 := (hb.cell (p := ⟨bl, off + i * 2, none⟩) hbl).trans a1
        have e1 := (hb.cell (p := ⟨bl, off + (i + 2) * 2, none⟩) hbl).trans e1
        have c1 := (hb.cell (p := ⟨B1, 0, none⟩) (Nat.lt_of_lt_of_le hb1 hB.size)).trans c1
        clear hb d1 d2 a2 e2 hB hrr
        cases hd : isC d 45 with
        | true =>
          have hrg := HRG.out hd
          have HD := hid hd
          clear hd HRG HSI
          cases acc with
          | true =>
            have HG := hid hrg
            clear hrg
            go_wp2_with fail
            go_roundg (gk - 3)
            case measure => go_light; have := HM.out; omega
            case rel =>
              go_light
              have := HM.out
              exact ⟨i + 3, true, by omega, rfl, int_cast (by omega), by rw [HA.out]; rfl, hB1⟩
          | false =>
            have hdx : decide (x ≤ b) = decide (x.toNat ≤ b.toNat) := by rw [decide_eq_decide, UInt8.le_iff_toNat_le]
            have hdy : decide (b ≤ y) = decide (b.toNat ≤ y.toNat) := by rw [decide_eq_decide, UInt8.le_iff_toNat_le]
            rw [hdx, hdy] at hrg
            clear hdx hdy
            have HG := hid hrg
            clear hrg
            by_cases hx : x.toNat ≤ b.toNat
            · have HX := hid hx
              go_wp2_with fail
              go_roundg (gk - 3)
              case measure => go_light; have := HM.out; omega
              case rel =>
                go_light
                have := HM.out
                exact ⟨i + 3, _, by omega, rfl, int_cast (by omega), by rw [HA.out, HG.out, decide_eq_true HX.out, Bool.true_and]; rfl, hB1⟩
            · have HX := hid hx
              go_wp2_with fail
              go_roundg (gk - 3)
              case measure => go_light; have := HM.out; omega
              case rel =>
                go_light
                have := HM.out
                exact ⟨i + 3, false, by omega, rfl, int_cast (by omega), by rw [HA.out, HG.out, decide_eq_false HX.out, Bool.false_and, Bool.false_or], hB1⟩
        | false =>
          have hsi := HSI.out (fun _ => hd)
          rw [← u8_eqI] at hsi
          have HD := hid hd
          have HG := hid hsi
          clear hd HRG HSI hsi
          cases acc with
          | true =>
            go_wp2_with fail
            go_roundg (gk - 1)
            case measure => go_light; have := HM.out; omega
            case rel =>
              go_light
              have := HM.out
              exact ⟨i + 1, true, by omega, rfl, int_cast (by omega), by rw [HA.out]; rfl, hB1⟩
          | false =>
            go_wp2_with fail
            go_roundg (gk - 1)
            case measure => go_light; have := HM.out; omega
            case rel =>
              go_light
              have := HM.out
              exact ⟨i + 1, _, by omega, rfl, int_cast (by omega), by rw [HA.out, HG.out]; rfl, hB1⟩
      · have hsi := inSet_single hlt (fun h => absurd h h2) b
        generalize (l.getD i (0, true)).1 = x at a1 a2 hsi
        rw [← u8_eqI] at hsi
        have HG := hid hsi
        have i2 : ¬ (i : Int) + 2 < (l.length : Int) := by omega
        clear hsi h2 a2 hrr
        cases acc with
        | true =>
          go_wp2_with fail
          go_roundg (gk - 1)
          case measure => go_light; have := HM.out; omega
          case rel =>
            go_light
            have := HM.out
            exact ⟨i + 1, true, by omega, rfl, int_cast (by omega), by rw [HA.out]; rfl, hB⟩
        | false =>
          go_wp2_with fail
          go_roundg (gk - 1)
          case measure => go_light; have := HM.out; omega
          case rel =>
            go_light
            have := HM.out
            exact ⟨i + 1, _, by omega, rfl, int_cast (by omega), by rw [HA.out, HG.out]; rfl, hB⟩
    · have := HM.out
      obtain rfl : i = l.length := by omega
      have c2 : wr.cell? ⟨B2, 0, none⟩ = some (.bool neg) := (hB.cell (p := ⟨B2, 0, none⟩) hb2).trans H2.out
      have hfin : inSet l b = acc := by rw [HA.out, List.drop_length]; simp [inSet]
      have HF := hid hfin
      clear this hlt hfin
      go_wp2_with fail
      go_ret
      exact ⟨by rw [HF.out]; rfl, hB⟩
end Go.Proofs.YtklihdlfbhgpeaaDoor
