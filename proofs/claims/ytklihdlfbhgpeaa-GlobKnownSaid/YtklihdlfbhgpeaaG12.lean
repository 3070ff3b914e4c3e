/-
  The walk of the reference's set.
-/
import Derived.Test.YtklihdlfbhgpeaaG11
namespace Go.Proofs.Ytklihdlfbhgpeaa
open Go.RowKit
set_option linter.unusedVariables false

/-- What the reference's set answers. -/
def refSetV (l : List Ch) (b : UInt8) : Int × Bool := match setOf l with | none => (0, false) | some (neg, ins, n) => ((n : Int), inSet ins b != neg)
theorem refSetV_none {l : List Ch} (h : setOf l = none) (b : UInt8) : refSetV l b = (0, false) := by unfold refSetV; rw [h]
theorem refSetV_some {l : List Ch} {neg : Bool} {ins : List Ch} {n : Nat} (h : setOf l = some (neg, ins, n)) (b : UInt8) : refSetV l b = ((n : Int), inSet ins b != neg) := by unfold refSetV; rw [h]
theorem ins_get {l : List Ch} {fr k j : Nat} (hk : fr + k < l.length) (hj : j ≤ k) : ((l.drop fr).take (k + 1)).getD j (0, true) = l.getD (fr + j) (0, true) := by
  have h1 : j < ((l.drop fr).take (k + 1)).length := by rw [List.length_take, List.length_drop]; omega
  rw [List.getD, List.getElem?_eq_getElem h1, List.getElem_take, List.getElem_drop, List.getD, List.getElem?_eq_getElem (by omega)]
theorem drop_get {l : List Ch} {fr j : Nat} (hj : fr + j < l.length) : (l.drop fr).getD j (0, true) = l.getD (fr + j) (0, true) := by
  have h1 : j < (l.drop fr).length := by rw [List.length_drop]; omega
  rw [List.getD, List.getElem?_eq_getElem h1, List.getElem_drop, List.getD, List.getElem?_eq_getElem hj]
theorem ret_set {a c : Int} {x y : Bool} (h1 : a = c) (h2 : x = y) : Ending.returned (.tuple #[.int .i64 a, .bool x]) = .returned (.tuple #[.int .i64 c, .bool y]) := by rw [h1, h2]

set_option maxRecDepth 100000 in
set_option maxHeartbeats 4000000 in
theorem refSet_any (A : Option Addr) (c : Nat) (l : List Ch) (b : UInt8) (hl : l.length ≤ 1000000) (w : World) (hr : Cs w A l) :
    Calls Try.prog 34 #[.slice A l.length c, .int .u8 (b.toNat : Int)] w fun e w' => e = .returned (.tuple #[.int .i64 (refSetV l b).1, .bool (refSetV l b).2]) ∧ Below w.heap.size w w' := by
  have hlI : (l.length : Int) ≤ 1000000 := by omega
  have HR := hid hr
  clear hr
  by_cases h0 : l.length = 0
  · have h0I : (l.length : Int) = 0 := by omega
    have HN := hid (refSetV_none (setOf_short (l := l) (by omega)) b)
    clear h0
    go_enter Try.func34, Try.ntmps34
    go_wp2_with fail
    go_ret2
    exact ⟨by rw [HN.out]; rfl, Below.refl _ _⟩
  · have h0I : ¬ (l.length : Int) = 0 := by omega
    have h0P : (0 : Int) < l.length := by omega
    obtain ⟨B, off, hA, hB0, a1, a2⟩ := Cs.at_ HR.out (show 0 < l.length by omega)
    subst hA
    have hso := @setOf_open l
    have hsy := fun k => @setOf_yes l k
    obtain ⟨c0, hc0⟩ : ∃ c0, c0 = l.getD 0 (0, true) := ⟨_, rfl⟩
    rw [← hc0] at a1 a2 hso hsy
    rw [Nat.zero_mul, Nat.add_zero] at a1 a2
    have HSO := hid hso
    have HSY := hid hsy
    clear hso hsy hc0
    go_enter Try.func34, Try.ntmps34
    go_wp2_with fail
    refine (refIs_any c0 91 _).mono ?_
    rintro e w1 ⟨rfl, hB1⟩
    clear a1 a2
    cases ho : isC c0 91 with
    | false =>
      have HN := hid (refSetV_none (HSO.out ho) b)
      clear ho
      go_wp2_with fail
      go_ret2
      exact ⟨by rw [HN.out]; rfl, hB1⟩
    | true =>
      have HO := hid ho
      clear ho HSO
      by_cases h1 : l.length = 1
      · have h1I : ¬ (1 : Int) < l.length := by omega
        have h2I : ¬ (2 : Int) < l.length := by omega
        have h3I : (l.length : Int) ≤ 2 := by omega
        have HN := hid (refSetV_none (setOf_short (l := l) (by omega)) b)
        clear h1
        go_wp2_with fail
        go_loopg [8] 0 (fun m v8 wr => v8 = .int .i64 2 ∧ w1 = wr)
        case atStart => exact ⟨rfl, rfl⟩
        case round =>
          obtain ⟨rfl, hwe⟩ := hrel
          subst hwe
          go_wp2_with fail
          go_ret2
          exact ⟨by rw [HN.out]; rfl, hB1⟩
      · have h1I : (1 : Int) < l.length := by omega
        obtain ⟨b1, b2⟩ := Cs.cell (HR.out.below hB1) (show 1 < l.length by omega)
        have hsf : setFrom l = if isNot (l.getD 1 (0, true)) then 2 else 1 := rfl
        have hsy := HSY.out
        obtain ⟨c1, hc1⟩ : ∃ c1, c1 = l.getD 1 (0, true) := ⟨_, rfl⟩
        rw [← hc1] at b1 b2 hsf hsy
        rw [Nat.one_mul] at b1 b2
        have HSY := hid hsy
        have HSF := hid hsf
        have hisn : isNot c1 = (isC c1 33 || isC c1 94) := rfl
        have HISN := hid hisn
        clear hsf hsy hc1 h1 hisn
        go_wp2_with fail
        refine (refIs_any c1 33 _).mono ?_
        rintro e w2 ⟨rfl, hB2⟩
        have hB3 := hB1.trans (hB2.mono hB1.size)
        have b1 := (hB2.cell (p := ⟨B, off + 2, none⟩) (Nat.lt_of_lt_of_le hB0 hB1.size)).trans b1
        have b2 := (hB2.cell (p := ⟨B, off + 2 + 1, none⟩) (Nat.lt_of_lt_of_le hB0 hB1.size)).trans b2
        clear hB1 hB2
        cases ho1 : isC c1 33 with
        | true =>
          have HNEG : Hid (isNot c1 = true) := hid (by rw [HISN.out, ho1]; rfl)
          clear ho1 b1 b2
          have hsf : setFrom l = 2 := by rw [HSF.out, HNEG.out]; rfl
          have HS := hid hsf
          clear hsf HSF
          go_wp2_with fail
          go_loopg [8] l.length (fun m v8 wr => ∃ k : Nat, m = l.length - k ∧ v8 = .int .i64 (3 + (k : Int)) ∧ (k = 0 ∨ 3 + k ≤ l.length) ∧ (∀ j, j < k → isC (l.getD (3 + j) (0, true)) 93 = false) ∧ Below w.heap.size w wr)
          case atStart => exact ⟨0, rfl, rfl, .inl rfl, by omega, hB3⟩
          case round =>
            clear hB3
            obtain ⟨k, hm, rfl, hk, hno, hBr⟩ := hrel
            have HM := hid hm
            have HN := hid hno
            clear hm hno
            by_cases hlt : 3 + k < l.length
            · have hltI : 3 + (k : Int) < l.length := by omega
              have hnI : (3 + (k : Int)).toNat = 3 + k := by omega
              have hpI : (0 : Int) ≤ 3 + (k : Int) := by omega
              obtain ⟨d1, d2⟩ := Cs.cell (HR.out.below hBr) hlt
              obtain ⟨d, hd⟩ : ∃ d, d = l.getD (3 + k) (0, true) := ⟨_, rfl⟩
              rw [← hd] at d1 d2
              have HD := hid hd
              clear hd
              go_wp2_with fail
              refine (refIs_any d 93 _).mono ?_
              rintro e w5 ⟨rfl, hB5⟩
              have hB6 := hBr.trans (hB5.mono hBr.size)
              clear hB5 hBr d1 d2
              cases hcl : isC d 93 with
              | false =>
                have HCL := hid hcl
                clear hcl
                go_wp2_with fail
                go_roundg (l.length - (k + 1))
                case measure => go_light; have := HM.out; omega
                case rel =>
                  go_light
                  refine ⟨k + 1, rfl, int_cast (by omega), .inr (by omega), fun j hj => ?_, hB6⟩
                  by_cases hjk : j = k
                  · subst hjk; rw [← HD.out]; exact HCL.out
                  · exact HN.out j (by omega)
              | true =>
                have hea : endAt (l.drop (2 + 1)) = some k := endAt_some (by rw [List.length_drop]; omega) (fun j hj => by rw [drop_get (by omega)]; exact HN.out j hj) (by rw [drop_get (by omega), ← HD.out]; exact hcl)
                have hset := HSY.out k HO.out (by rw [HS.out]; exact hea)
                rw [HS.out, HNEG.out] at hset
                have hv := refSetV_some hset b
                have hil : ((l.drop 2).take (k + 1)).length = k + 1 := by rw [List.length_take, List.length_drop]; omega
                have hig := fun j (hj : j ≤ k) => ins_get (l := l) (fr := 2) (k := k) (j := j) (by omega) hj
                obtain ⟨ins, hins⟩ : ∃ ins, ins = (l.drop 2).take (k + 1) := ⟨_, rfl⟩
                rw [← hins] at hv hil hig
                have HV := hid hv
                have HIL := hid hil
                have HIG := hid hig
                have hkk : 2 + k + 1 ≤ l.length := by omega
                clear hcl hea hset hv hil hig hins HN HM HD hk
                go_wp2_with fail
                go_loopg [9, 10] (k + 1) (fun m v9 v10 wr => ∃ (j : Nat) (acc : Bool), m = k + 1 - j ∧ v9 = .bool acc ∧ v10 = .int .i64 (2 + (j : Int)) ∧ j ≤ k + 1 ∧ inSet ins b = (acc || inSet (ins.drop j) b) ∧ Below w.heap.size w wr)
                case atStart => exact ⟨0, false, rfl, rfl, rfl, by omega, rfl, hB6⟩
                case round =>
                  clear hB6
                  obtain ⟨j, acc, hm, rfl, rfl, hjk, hacc, hB⟩ := hrel
                  have HM := hid hm
                  have HA := hid hacc
                  clear hm hacc
                  by_cases hj : j < k + 1
                  · have hjI : 2 + (j : Int) < 3 + (k : Int) := by omega
                    have hjL : 2 + (j : Int) < l.length := by omega
                    have hnJ : (2 + (j : Int)).toNat = 2 + j := by omega
                    have hpJ : (0 : Int) ≤ 2 + (j : Int) := by omega
                    obtain ⟨x1, x2⟩ := Cs.cell (HR.out.below hB) (show 2 + j < l.length by omega)
                    by_cases hj2 : j + 2 < k + 1
                    · have hj2I : 2 + (j : Int) + 2 < 3 + (k : Int) := by omega
                      have hnJ1 : (2 + (j : Int) + 1).toNat = 2 + j + 1 := by omega
                      have hnJ2 : (2 + (j : Int) + 2).toNat = 2 + j + 2 := by omega
                      have hpJ1 : (0 : Int) ≤ 2 + (j : Int) + 1 := by omega
                      have hpJ2 : (0 : Int) ≤ 2 + (j : Int) + 2 := by omega
                      have hjL1 : 2 + (j : Int) + 1 < l.length := by omega
                      have hjL2 : 2 + (j : Int) + 2 < l.length := by omega
                      obtain ⟨d1, d2⟩ := Cs.cell (HR.out.below hB) (show 2 + j + 1 < l.length by omega)
                      obtain ⟨y1, y2⟩ := Cs.cell (HR.out.below hB) (show 2 + j + 2 < l.length by omega)
                      have hrg := fun hd => inSet_range (l := ins) (i := j) (by rw [HIL.out]; omega) hd b
                      have hsi := fun hd => inSet_single (l := ins) (i := j) (by rw [HIL.out]; omega) hd b
                      rw [HIG.out j (by omega), HIG.out (j + 1) (by omega), HIG.out (j + 2) (by omega)] at hrg
                      rw [HIG.out j (by omega), HIG.out (j + 1) (by omega)] at hsi
                      rw [show 2 + (j + 1) = 2 + j + 1 by omega] at hrg hsi
                      rw [show 2 + (j + 2) = 2 + j + 2 by omega] at hrg
                      generalize (l.getD (2 + j) (0, true)).1 = x at x1 hrg hsi
                      generalize (l.getD (2 + j + 2) (0, true)).1 = y at y1 hrg
                      generalize l.getD (2 + j + 1) (0, true) = d at d1 d2 hrg hsi
                      have HRG := hid hrg
                      have HSI := hid hsi
                      clear hrg hsi x2 y2
                      go_wp2_with fail
                      refine (refIs_any d 45 _).mono ?_
                      rintro e w7 ⟨rfl, hB7⟩
                      have hbl : B < wr.heap.size := Nat.lt_of_lt_of_le hB0 hB.size
                      have x1 := (hB7.cell (p := ⟨B, off + (2 + j) * 2, none⟩) hbl).trans x1
                      have y1 := (hB7.cell (p := ⟨B, off + (2 + j + 2) * 2, none⟩) hbl).trans y1
                      have hB8 := hB.trans (hB7.mono hB.size)
                      clear hB7 hB d1 d2 hbl
                      cases hd : isC d 45 with
                      | true =>
                        have hrg := HRG.out hd
                        clear hd HRG HSI
                        cases acc with
                        | true =>
                          have HG := hid hrg
                          clear hrg
                          go_wp2_with fail
                          go_roundg (k + 1 - (j + 3))
                          case measure => go_light; have := HM.out; omega
                          case rel =>
                            go_light
                            exact ⟨j + 3, true, rfl, rfl, int_cast (by omega), by omega, by rw [HA.out]; rfl, hB8⟩
                        | false =>
                          have hdx : decide (x ≤ b) = decide (x.toNat ≤ b.toNat) := by rw [decide_eq_decide, UInt8.le_iff_toNat_le]
                          have hdy : decide (b ≤ y) = decide (b.toNat ≤ y.toNat) := by rw [decide_eq_decide, UInt8.le_iff_toNat_le]
                          rw [hdx, hdy] at hrg
                          have HG := hid hrg
                          clear hrg hdx hdy
                          by_cases hx : x.toNat ≤ b.toNat
                          · have HX := hid hx
                            go_wp2_with fail
                            go_roundg (k + 1 - (j + 3))
                            case measure => go_light; have := HM.out; omega
                            case rel =>
                              go_light
                              exact ⟨j + 3, _, rfl, rfl, int_cast (by omega), by omega, by rw [HA.out, HG.out, decide_eq_true HX.out, Bool.true_and]; rfl, hB8⟩
                          · have HX := hid hx
                            go_wp2_with fail
                            go_roundg (k + 1 - (j + 3))
                            case measure => go_light; have := HM.out; omega
                            case rel =>
                              go_light
                              exact ⟨j + 3, false, rfl, rfl, int_cast (by omega), by omega, by rw [HA.out, HG.out, decide_eq_false HX.out, Bool.false_and, Bool.false_or], hB8⟩
                      | false =>
                        have hsi := HSI.out (fun _ => hd)
                        rw [← u8_eqI] at hsi
                        have HG := hid hsi
                        clear hd HRG HSI hsi
                        cases acc with
                        | true =>
                          go_wp2_with fail
                          go_roundg (k + 1 - (j + 1))
                          case measure => go_light; have := HM.out; omega
                          case rel =>
                            go_light
                            exact ⟨j + 1, true, rfl, rfl, int_cast (by omega), by omega, by rw [HA.out]; rfl, hB8⟩
                        | false =>
                          go_wp2_with fail
                          go_roundg (k + 1 - (j + 1))
                          case measure => go_light; have := HM.out; omega
                          case rel =>
                            go_light
                            exact ⟨j + 1, _, rfl, rfl, int_cast (by omega), by omega, by rw [HA.out, HG.out]; rfl, hB8⟩
                    · have hj2I : ¬ 2 + (j : Int) + 2 < 3 + (k : Int) := by omega
                      have hsi := inSet_single (l := ins) (i := j) (by rw [HIL.out]; omega) (fun h => absurd h (by rw [HIL.out]; omega)) b
                      rw [HIG.out j (by omega), ← u8_eqI] at hsi
                      generalize (l.getD (2 + j) (0, true)).1 = x at x1 hsi
                      have HG := hid hsi
                      clear hsi x2
                      cases acc with
                      | true =>
                        go_wp2_with fail
                        go_roundg (k + 1 - (j + 1))
                        case measure => go_light; have := HM.out; omega
                        case rel =>
                          go_light
                          exact ⟨j + 1, true, rfl, rfl, int_cast (by omega), by omega, by rw [HA.out]; rfl, hB⟩
                      | false =>
                        go_wp2_with fail
                        go_roundg (k + 1 - (j + 1))
                        case measure => go_light; have := HM.out; omega
                        case rel =>
                          go_light
                          exact ⟨j + 1, _, rfl, rfl, int_cast (by omega), by omega, by rw [HA.out, HG.out]; rfl, hB⟩
                  · obtain rfl : j = k + 1 := by omega
                    have hfin : inSet ins b = acc := by rw [HA.out, List.drop_of_length_le (by rw [HIL.out]; omega)]; simp [inSet]
                    have HF := hid hfin
                    have hjE : 2 + ((k + 1 : Nat) : Int) = 3 + (k : Int) := by omega
                    rw [hjE]
                    clear hj hfin hjE
                    go_wp2_with fail
                    go_ret2
                    exact ⟨by rw [HV.out, HF.out]; exact ret_set (by simp; omega) (by cases acc <;> rfl), hB⟩
            · have hea : endAt (l.drop (2 + 1)) = none := endAt_none fun j hj => by
                rw [List.length_drop] at hj
                rw [drop_get (by omega)]
                exact HN.out j (by omega)
              have HX := hid (refSetV_none (setOf_lost (l := l) (by rw [HS.out]; exact hea)) b)
              have hge : ¬ 3 + (k : Int) < l.length := by omega
              have hge2 : (l.length : Int) ≤ 3 + (k : Int) := by omega
              have hkI : 3 + (k : Int) ≤ 1000003 := by omega
              clear hea
              go_wp2_with fail
              go_ret2
              exact ⟨by rw [HX.out]; rfl, hBr⟩
        | false =>
          go_wp2_with fail
          refine (refIs_any c1 94 _).mono ?_
          rintro e w4 ⟨rfl, hB4⟩
          have hB3 := hB3.trans (hB4.mono hB3.size)
          obtain ⟨w2, hw2⟩ : ∃ w2, w2 = w4 := ⟨_, rfl⟩
          rw [← hw2] at hB3 ⊢
          clear b1 b2 hB4 hw2
          cases ho2 : isC c1 94 with
          | true =>
            have HNEG : Hid (isNot c1 = true) := hid (by rw [HISN.out, ho2]; simp)
            clear ho1 ho2
            have hsf : setFrom l = 2 := by rw [HSF.out, HNEG.out]; rfl
            have HS := hid hsf
            clear hsf HSF
            go_wp2_with fail
            go_loopg [8] l.length (fun m v8 wr => ∃ k : Nat, m = l.length - k ∧ v8 = .int .i64 (3 + (k : Int)) ∧ (k = 0 ∨ 3 + k ≤ l.length) ∧ (∀ j, j < k → isC (l.getD (3 + j) (0, true)) 93 = false) ∧ Below w.heap.size w wr)
            case atStart => exact ⟨0, rfl, rfl, .inl rfl, by omega, hB3⟩
            case round =>
              clear hB3
              obtain ⟨k, hm, rfl, hk, hno, hBr⟩ := hrel
              have HM := hid hm
              have HN := hid hno
              clear hm hno
              by_cases hlt : 3 + k < l.length
              · have hltI : 3 + (k : Int) < l.length := by omega
                have hnI : (3 + (k : Int)).toNat = 3 + k := by omega
                have hpI : (0 : Int) ≤ 3 + (k : Int) := by omega
                obtain ⟨d1, d2⟩ := Cs.cell (HR.out.below hBr) hlt
                obtain ⟨d, hd⟩ : ∃ d, d = l.getD (3 + k) (0, true) := ⟨_, rfl⟩
                rw [← hd] at d1 d2
                have HD := hid hd
                clear hd
                go_wp2_with fail
                refine (refIs_any d 93 _).mono ?_
                rintro e w5 ⟨rfl, hB5⟩
                have hB6 := hBr.trans (hB5.mono hBr.size)
                clear hB5 hBr d1 d2
                cases hcl : isC d 93 with
                | false =>
                  have HCL := hid hcl
                  clear hcl
                  go_wp2_with fail
                  go_roundg (l.length - (k + 1))
                  case measure => go_light; have := HM.out; omega
                  case rel =>
                    go_light
                    refine ⟨k + 1, rfl, int_cast (by omega), .inr (by omega), fun j hj => ?_, hB6⟩
                    by_cases hjk : j = k
                    · subst hjk; rw [← HD.out]; exact HCL.out
                    · exact HN.out j (by omega)
                | true =>
                  have hea : endAt (l.drop (2 + 1)) = some k := endAt_some (by rw [List.length_drop]; omega) (fun j hj => by rw [drop_get (by omega)]; exact HN.out j hj) (by rw [drop_get (by omega), ← HD.out]; exact hcl)
                  have hset := HSY.out k HO.out (by rw [HS.out]; exact hea)
                  rw [HS.out, HNEG.out] at hset
                  have hv := refSetV_some hset b
                  have hil : ((l.drop 2).take (k + 1)).length = k + 1 := by rw [List.length_take, List.length_drop]; omega
                  have hig := fun j (hj : j ≤ k) => ins_get (l := l) (fr := 2) (k := k) (j := j) (by omega) hj
                  obtain ⟨ins, hins⟩ : ∃ ins, ins = (l.drop 2).take (k + 1) := ⟨_, rfl⟩
                  rw [← hins] at hv hil hig
                  have HV := hid hv
                  have HIL := hid hil
                  have HIG := hid hig
                  have hkk : 2 + k + 1 ≤ l.length := by omega
                  clear hcl hea hset hv hil hig hins HN HM HD hk
                  go_wp2_with fail
                  go_loopg [9, 10] (k + 1) (fun m v9 v10 wr => ∃ (j : Nat) (acc : Bool), m = k + 1 - j ∧ v9 = .bool acc ∧ v10 = .int .i64 (2 + (j : Int)) ∧ j ≤ k + 1 ∧ inSet ins b = (acc || inSet (ins.drop j) b) ∧ Below w.heap.size w wr)
                  case atStart => exact ⟨0, false, rfl, rfl, rfl, by omega, rfl, hB6⟩
                  case round =>
                    clear hB6
                    obtain ⟨j, acc, hm, rfl, rfl, hjk, hacc, hB⟩ := hrel
                    have HM := hid hm
                    have HA := hid hacc
                    clear hm hacc
                    by_cases hj : j < k + 1
                    · have hjI : 2 + (j : Int) < 3 + (k : Int) := by omega
                      have hjL : 2 + (j : Int) < l.length := by omega
                      have hnJ : (2 + (j : Int)).toNat = 2 + j := by omega
                      have hpJ : (0 : Int) ≤ 2 + (j : Int) := by omega
                      obtain ⟨x1, x2⟩ := Cs.cell (HR.out.below hB) (show 2 + j < l.length by omega)
                      by_cases hj2 : j + 2 < k + 1
                      · have hj2I : 2 + (j : Int) + 2 < 3 + (k : Int) := by omega
                        have hnJ1 : (2 + (j : Int) + 1).toNat = 2 + j + 1 := by omega
                        have hnJ2 : (2 + (j : Int) + 2).toNat = 2 + j + 2 := by omega
                        have hpJ1 : (0 : Int) ≤ 2 + (j : Int) + 1 := by omega
                        have hpJ2 : (0 : Int) ≤ 2 + (j : Int) + 2 := by omega
                        have hjL1 : 2 + (j : Int) + 1 < l.length := by omega
                        have hjL2 : 2 + (j : Int) + 2 < l.length := by omega
                        obtain ⟨d1, d2⟩ := Cs.cell (HR.out.below hB) (show 2 + j + 1 < l.length by omega)
                        obtain ⟨y1, y2⟩ := Cs.cell (HR.out.below hB) (show 2 + j + 2 < l.length by omega)
                        have hrg := fun hd => inSet_range (l := ins) (i := j) (by rw [HIL.out]; omega) hd b
                        have hsi := fun hd => inSet_single (l := ins) (i := j) (by rw [HIL.out]; omega) hd b
                        rw [HIG.out j (by omega), HIG.out (j + 1) (by omega), HIG.out (j + 2) (by omega)] at hrg
                        rw [HIG.out j (by omega), HIG.out (j + 1) (by omega)] at hsi
                        rw [show 2 + (j + 1) = 2 + j + 1 by omega] at hrg hsi
                        rw [show 2 + (j + 2) = 2 + j + 2 by omega] at hrg
                        generalize (l.getD (2 + j) (0, true)).1 = x at x1 hrg hsi
                        generalize (l.getD (2 + j + 2) (0, true)).1 = y at y1 hrg
                        generalize l.getD (2 + j + 1) (0, true) = d at d1 d2 hrg hsi
                        have HRG := hid hrg
                        have HSI := hid hsi
                        clear hrg hsi x2 y2
                        go_wp2_with fail
                        refine (refIs_any d 45 _).mono ?_
                        rintro e w7 ⟨rfl, hB7⟩
                        have hbl : B < wr.heap.size := Nat.lt_of_lt_of_le hB0 hB.size
                        have x1 := (hB7.cell (p := ⟨B, off + (2 + j) * 2, none⟩) hbl).trans x1
                        have y1 := (hB7.cell (p := ⟨B, off + (2 + j + 2) * 2, none⟩) hbl).trans y1
                        have hB8 := hB.trans (hB7.mono hB.size)
                        clear hB7 hB d1 d2 hbl
                        cases hd : isC d 45 with
                        | true =>
                          have hrg := HRG.out hd
                          clear hd HRG HSI
                          cases acc with
                          | true =>
                            have HG := hid hrg
                            clear hrg
                            go_wp2_with fail
                            go_roundg (k + 1 - (j + 3))
                            case measure => go_light; have := HM.out; omega
                            case rel =>
                              go_light
                              exact ⟨j + 3, true, rfl, rfl, int_cast (by omega), by omega, by rw [HA.out]; rfl, hB8⟩
                          | false =>
                            have hdx : decide (x ≤ b) = decide (x.toNat ≤ b.toNat) := by rw [decide_eq_decide, UInt8.le_iff_toNat_le]
                            have hdy : decide (b ≤ y) = decide (b.toNat ≤ y.toNat) := by rw [decide_eq_decide, UInt8.le_iff_toNat_le]
                            rw [hdx, hdy] at hrg
                            have HG := hid hrg
                            clear hrg hdx hdy
                            by_cases hx : x.toNat ≤ b.toNat
                            · have HX := hid hx
                              go_wp2_with fail
                              go_roundg (k + 1 - (j + 3))
                              case measure => go_light; have := HM.out; omega
                              case rel =>
                                go_light
                                exact ⟨j + 3, _, rfl, rfl, int_cast (by omega), by omega, by rw [HA.out, HG.out, decide_eq_true HX.out, Bool.true_and]; rfl, hB8⟩
                            · have HX := hid hx
                              go_wp2_with fail
                              go_roundg (k + 1 - (j + 3))
                              case measure => go_light; have := HM.out; omega
                              case rel =>
                                go_light
                                exact ⟨j + 3, false, rfl, rfl, int_cast (by omega), by omega, by rw [HA.out, HG.out, decide_eq_false HX.out, Bool.false_and, Bool.false_or], hB8⟩
                        | false =>
                          have hsi := HSI.out (fun _ => hd)
                          rw [← u8_eqI] at hsi
                          have HG := hid hsi
                          clear hd HRG HSI hsi
                          cases acc with
                          | true =>
                            go_wp2_with fail
                            go_roundg (k + 1 - (j + 1))
                            case measure => go_light; have := HM.out; omega
                            case rel =>
                              go_light
                              exact ⟨j + 1, true, rfl, rfl, int_cast (by omega), by omega, by rw [HA.out]; rfl, hB8⟩
                          | false =>
                            go_wp2_with fail
                            go_roundg (k + 1 - (j + 1))
                            case measure => go_light; have := HM.out; omega
                            case rel =>
                              go_light
                              exact ⟨j + 1, _, rfl, rfl, int_cast (by omega), by omega, by rw [HA.out, HG.out]; rfl, hB8⟩
                      · have hj2I : ¬ 2 + (j : Int) + 2 < 3 + (k : Int) := by omega
                        have hsi := inSet_single (l := ins) (i := j) (by rw [HIL.out]; omega) (fun h => absurd h (by rw [HIL.out]; omega)) b
                        rw [HIG.out j (by omega), ← u8_eqI] at hsi
                        generalize (l.getD (2 + j) (0, true)).1 = x at x1 hsi
                        have HG := hid hsi
                        clear hsi x2
                        cases acc with
                        | true =>
                          go_wp2_with fail
                          go_roundg (k + 1 - (j + 1))
                          case measure => go_light; have := HM.out; omega
                          case rel =>
                            go_light
                            exact ⟨j + 1, true, rfl, rfl, int_cast (by omega), by omega, by rw [HA.out]; rfl, hB⟩
                        | false =>
                          go_wp2_with fail
                          go_roundg (k + 1 - (j + 1))
                          case measure => go_light; have := HM.out; omega
                          case rel =>
                            go_light
                            exact ⟨j + 1, _, rfl, rfl, int_cast (by omega), by omega, by rw [HA.out, HG.out]; rfl, hB⟩
                    · obtain rfl : j = k + 1 := by omega
                      have hfin : inSet ins b = acc := by rw [HA.out, List.drop_of_length_le (by rw [HIL.out]; omega)]; simp [inSet]
                      have HF := hid hfin
                      have hjE : 2 + ((k + 1 : Nat) : Int) = 3 + (k : Int) := by omega
                      rw [hjE]
                      clear hj hfin hjE
                      go_wp2_with fail
                      go_ret2
                      exact ⟨by rw [HV.out, HF.out]; exact ret_set (by simp; omega) (by cases acc <;> rfl), hB⟩
              · have hea : endAt (l.drop (2 + 1)) = none := endAt_none fun j hj => by
                  rw [List.length_drop] at hj
                  rw [drop_get (by omega)]
                  exact HN.out j (by omega)
                have HX := hid (refSetV_none (setOf_lost (l := l) (by rw [HS.out]; exact hea)) b)
                have hge : ¬ 3 + (k : Int) < l.length := by omega
                have hge2 : (l.length : Int) ≤ 3 + (k : Int) := by omega
                have hkI : 3 + (k : Int) ≤ 1000003 := by omega
                clear hea
                go_wp2_with fail
                go_ret2
                exact ⟨by rw [HX.out]; rfl, hBr⟩
          | false =>
            have HNEG : Hid (isNot c1 = false) := hid (by rw [HISN.out, ho1, ho2]; rfl)
            clear ho1 ho2
            have hsf : setFrom l = 1 := by rw [HSF.out, HNEG.out]; rfl
            have HS := hid hsf
            clear hsf HSF
            go_wp2_with fail
            go_loopg [8] l.length (fun m v8 wr => ∃ k : Nat, m = l.length - k ∧ v8 = .int .i64 (2 + (k : Int)) ∧ (k = 0 ∨ 2 + k ≤ l.length) ∧ (∀ j, j < k → isC (l.getD (2 + j) (0, true)) 93 = false) ∧ Below w.heap.size w wr)
            case atStart => exact ⟨0, rfl, rfl, .inl rfl, by omega, hB3⟩
            case round =>
              clear hB3
              obtain ⟨k, hm, rfl, hk, hno, hBr⟩ := hrel
              have HM := hid hm
              have HN := hid hno
              clear hm hno
              by_cases hlt : 2 + k < l.length
              · have hltI : 2 + (k : Int) < l.length := by omega
                have hnI : (2 + (k : Int)).toNat = 2 + k := by omega
                have hpI : (0 : Int) ≤ 2 + (k : Int) := by omega
                obtain ⟨d1, d2⟩ := Cs.cell (HR.out.below hBr) hlt
                obtain ⟨d, hd⟩ : ∃ d, d = l.getD (2 + k) (0, true) := ⟨_, rfl⟩
                rw [← hd] at d1 d2
                have HD := hid hd
                clear hd
                go_wp2_with fail
                refine (refIs_any d 93 _).mono ?_
                rintro e w5 ⟨rfl, hB5⟩
                have hB6 := hBr.trans (hB5.mono hBr.size)
                clear hB5 hBr d1 d2
                cases hcl : isC d 93 with
                | false =>
                  have HCL := hid hcl
                  clear hcl
                  go_wp2_with fail
                  go_roundg (l.length - (k + 1))
                  case measure => go_light; have := HM.out; omega
                  case rel =>
                    go_light
                    refine ⟨k + 1, rfl, int_cast (by omega), .inr (by omega), fun j hj => ?_, hB6⟩
                    by_cases hjk : j = k
                    · subst hjk; rw [← HD.out]; exact HCL.out
                    · exact HN.out j (by omega)
                | true =>
                  have hea : endAt (l.drop (1 + 1)) = some k := endAt_some (by rw [List.length_drop]; omega) (fun j hj => by rw [drop_get (by omega)]; exact HN.out j hj) (by rw [drop_get (by omega), ← HD.out]; exact hcl)
                  have hset := HSY.out k HO.out (by rw [HS.out]; exact hea)
                  rw [HS.out, HNEG.out] at hset
                  have hv := refSetV_some hset b
                  have hil : ((l.drop 1).take (k + 1)).length = k + 1 := by rw [List.length_take, List.length_drop]; omega
                  have hig := fun j (hj : j ≤ k) => ins_get (l := l) (fr := 1) (k := k) (j := j) (by omega) hj
                  obtain ⟨ins, hins⟩ : ∃ ins, ins = (l.drop 1).take (k + 1) := ⟨_, rfl⟩
                  rw [← hins] at hv hil hig
                  have HV := hid hv
                  have HIL := hid hil
                  have HIG := hid hig
                  have hkk : 1 + k + 1 ≤ l.length := by omega
                  clear hcl hea hset hv hil hig hins HN HM HD hk
                  go_wp2_with fail
                  go_loopg [9, 10] (k + 1) (fun m v9 v10 wr => ∃ (j : Nat) (acc : Bool), m = k + 1 - j ∧ v9 = .bool acc ∧ v10 = .int .i64 (1 + (j : Int)) ∧ j ≤ k + 1 ∧ inSet ins b = (acc || inSet (ins.drop j) b) ∧ Below w.heap.size w wr)
                  case atStart => exact ⟨0, false, rfl, rfl, rfl, by omega, rfl, hB6⟩
                  case round =>
                    clear hB6
                    obtain ⟨j, acc, hm, rfl, rfl, hjk, hacc, hB⟩ := hrel
                    have HM := hid hm
                    have HA := hid hacc
                    clear hm hacc
                    by_cases hj : j < k + 1
                    · have hjI : 1 + (j : Int) < 2 + (k : Int) := by omega
                      have hjL : 1 + (j : Int) < l.length := by omega
                      have hnJ : (1 + (j : Int)).toNat = 1 + j := by omega
                      have hpJ : (0 : Int) ≤ 1 + (j : Int) := by omega
                      obtain ⟨x1, x2⟩ := Cs.cell (HR.out.below hB) (show 1 + j < l.length by omega)
                      by_cases hj2 : j + 2 < k + 1
                      · have hj2I : 1 + (j : Int) + 2 < 2 + (k : Int) := by omega
                        have hnJ1 : (1 + (j : Int) + 1).toNat = 1 + j + 1 := by omega
                        have hnJ2 : (1 + (j : Int) + 2).toNat = 1 + j + 2 := by omega
                        have hpJ1 : (0 : Int) ≤ 1 + (j : Int) + 1 := by omega
                        have hpJ2 : (0 : Int) ≤ 1 + (j : Int) + 2 := by omega
                        have hjL1 : 1 + (j : Int) + 1 < l.length := by omega
                        have hjL2 : 1 + (j : Int) + 2 < l.length := by omega
                        obtain ⟨d1, d2⟩ := Cs.cell (HR.out.below hB) (show 1 + j + 1 < l.length by omega)
                        obtain ⟨y1, y2⟩ := Cs.cell (HR.out.below hB) (show 1 + j + 2 < l.length by omega)
                        have hrg := fun hd => inSet_range (l := ins) (i := j) (by rw [HIL.out]; omega) hd b
                        have hsi := fun hd => inSet_single (l := ins) (i := j) (by rw [HIL.out]; omega) hd b
                        rw [HIG.out j (by omega), HIG.out (j + 1) (by omega), HIG.out (j + 2) (by omega)] at hrg
                        rw [HIG.out j (by omega), HIG.out (j + 1) (by omega)] at hsi
                        rw [show 1 + (j + 1) = 1 + j + 1 by omega] at hrg hsi
                        rw [show 1 + (j + 2) = 1 + j + 2 by omega] at hrg
                        generalize (l.getD (1 + j) (0, true)).1 = x at x1 hrg hsi
                        generalize (l.getD (1 + j + 2) (0, true)).1 = y at y1 hrg
                        generalize l.getD (1 + j + 1) (0, true) = d at d1 d2 hrg hsi
                        have HRG := hid hrg
                        have HSI := hid hsi
                        clear hrg hsi x2 y2
                        go_wp2_with fail
                        refine (refIs_any d 45 _).mono ?_
                        rintro e w7 ⟨rfl, hB7⟩
                        have hbl : B < wr.heap.size := Nat.lt_of_lt_of_le hB0 hB.size
                        have x1 := (hB7.cell (p := ⟨B, off + (1 + j) * 2, none⟩) hbl).trans x1
                        have y1 := (hB7.cell (p := ⟨B, off + (1 + j + 2) * 2, none⟩) hbl).trans y1
                        have hB8 := hB.trans (hB7.mono hB.size)
                        clear hB7 hB d1 d2 hbl
                        cases hd : isC d 45 with
                        | true =>
                          have hrg := HRG.out hd
                          clear hd HRG HSI
                          cases acc with
                          | true =>
                            have HG := hid hrg
                            clear hrg
                            go_wp2_with fail
                            go_roundg (k + 1 - (j + 3))
                            case measure => go_light; have := HM.out; omega
                            case rel =>
                              go_light
                              exact ⟨j + 3, true, rfl, rfl, int_cast (by omega), by omega, by rw [HA.out]; rfl, hB8⟩
                          | false =>
                            have hdx : decide (x ≤ b) = decide (x.toNat ≤ b.toNat) := by rw [decide_eq_decide, UInt8.le_iff_toNat_le]
                            have hdy : decide (b ≤ y) = decide (b.toNat ≤ y.toNat) := by rw [decide_eq_decide, UInt8.le_iff_toNat_le]
                            rw [hdx, hdy] at hrg
                            have HG := hid hrg
                            clear hrg hdx hdy
                            by_cases hx : x.toNat ≤ b.toNat
                            · have HX := hid hx
                              go_wp2_with fail
                              go_roundg (k + 1 - (j + 3))
                              case measure => go_light; have := HM.out; omega
                              case rel =>
                                go_light
                                exact ⟨j + 3, _, rfl, rfl, int_cast (by omega), by omega, by rw [HA.out, HG.out, decide_eq_true HX.out, Bool.true_and]; rfl, hB8⟩
                            · have HX := hid hx
                              go_wp2_with fail
                              go_roundg (k + 1 - (j + 3))
                              case measure => go_light; have := HM.out; omega
                              case rel =>
                                go_light
                                exact ⟨j + 3, false, rfl, rfl, int_cast (by omega), by omega, by rw [HA.out, HG.out, decide_eq_false HX.out, Bool.false_and, Bool.false_or], hB8⟩
                        | false =>
                          have hsi := HSI.out (fun _ => hd)
                          rw [← u8_eqI] at hsi
                          have HG := hid hsi
                          clear hd HRG HSI hsi
                          cases acc with
                          | true =>
                            go_wp2_with fail
                            go_roundg (k + 1 - (j + 1))
                            case measure => go_light; have := HM.out; omega
                            case rel =>
                              go_light
                              exact ⟨j + 1, true, rfl, rfl, int_cast (by omega), by omega, by rw [HA.out]; rfl, hB8⟩
                          | false =>
                            go_wp2_with fail
                            go_roundg (k + 1 - (j + 1))
                            case measure => go_light; have := HM.out; omega
                            case rel =>
                              go_light
                              exact ⟨j + 1, _, rfl, rfl, int_cast (by omega), by omega, by rw [HA.out, HG.out]; rfl, hB8⟩
                      · have hj2I : ¬ 1 + (j : Int) + 2 < 2 + (k : Int) := by omega
                        have hsi := inSet_single (l := ins) (i := j) (by rw [HIL.out]; omega) (fun h => absurd h (by rw [HIL.out]; omega)) b
                        rw [HIG.out j (by omega), ← u8_eqI] at hsi
                        generalize (l.getD (1 + j) (0, true)).1 = x at x1 hsi
                        have HG := hid hsi
                        clear hsi x2
                        cases acc with
                        | true =>
                          go_wp2_with fail
                          go_roundg (k + 1 - (j + 1))
                          case measure => go_light; have := HM.out; omega
                          case rel =>
                            go_light
                            exact ⟨j + 1, true, rfl, rfl, int_cast (by omega), by omega, by rw [HA.out]; rfl, hB⟩
                        | false =>
                          go_wp2_with fail
                          go_roundg (k + 1 - (j + 1))
                          case measure => go_light; have := HM.out; omega
                          case rel =>
                            go_light
                            exact ⟨j + 1, _, rfl, rfl, int_cast (by omega), by omega, by rw [HA.out, HG.out]; rfl, hB⟩
                    · obtain rfl : j = k + 1 := by omega
                      have hfin : inSet ins b = acc := by rw [HA.out, List.drop_of_length_le (by rw [HIL.out]; omega)]; simp [inSet]
                      have HF := hid hfin
                      have hjE : 1 + ((k + 1 : Nat) : Int) = 2 + (k : Int) := by omega
                      rw [hjE]
                      clear hj hfin hjE
                      go_wp2_with fail
                      go_ret2
                      exact ⟨by rw [HV.out, HF.out]; exact ret_set (by simp; omega) (by cases acc <;> rfl), hB⟩
              · have hea : endAt (l.drop (1 + 1)) = none := endAt_none fun j hj => by
                  rw [List.length_drop] at hj
                  rw [drop_get (by omega)]
                  exact HN.out j (by omega)
                have HX := hid (refSetV_none (setOf_lost (l := l) (by rw [HS.out]; exact hea)) b)
                have hge : ¬ 2 + (k : Int) < l.length := by omega
                have hge2 : (l.length : Int) ≤ 2 + (k : Int) := by omega
                have hkI : 2 + (k : Int) ≤ 1000003 := by omega
                clear hea
                go_wp2_with fail
                go_ret2
                exact ⟨by rw [HX.out]; rfl, hBr⟩
end Go.Proofs.Ytklihdlfbhgpeaa
