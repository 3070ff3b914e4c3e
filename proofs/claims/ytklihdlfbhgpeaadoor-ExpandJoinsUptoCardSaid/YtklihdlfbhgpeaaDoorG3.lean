/-
  The walk of the program's set.
-/
import Derived.Test.YtklihdlfbhgpeaaDoorG2
namespace Go.Proofs.YtklihdlfbhgpeaaDoor
open Go.RowKit
set_option linter.unusedVariables false

/-- The function value f is the closure of a set that is a part of l, which lies at A; its two boxes lie from block B on. -/
def SetFn (B : Nat) (w : World) (A : Option Addr) (l : List Ch) (f : Value) (neg : Bool) (ins : List Ch) : Prop :=
  ∃ B1 B2 b off k c, A = some ⟨b, off, none⟩ ∧ f = .func (.func 74) #[] #[.pointer (some ⟨B1, 0, none⟩), .pointer (some ⟨B2, 0, none⟩)] ∧ B ≤ B1 ∧ B ≤ B2 ∧ ins.length ≤ 1000000000 ∧
    At w B1 116 #[.slice (some ⟨b, off + k * 2, none⟩) ins.length c] ∧ At w B2 4 #[.bool neg] ∧ k < l.length ∧ ins = (l.drop k).take ins.length
/-- What set answers. -/
def SetRes (B : Nat) (A : Option Addr) (l : List Ch) (e : Ending) (w : World) : Prop :=
  match setOf l with
  | none => e = .returned (.tuple #[.nilFunc, .int .i64 0])
  | some (neg, ins, n) => ∃ f, e = .returned (.tuple #[f, .int .i64 (n : Int)]) ∧ SetFn B w A l f neg ins
theorem SetRes.no {B : Nat} {A : Option Addr} {l : List Ch} {e : Ending} {w : World} (h : setOf l = none) (he : e = .returned (.tuple #[.nilFunc, .int .i64 0])) : SetRes B A l e w := by
  unfold SetRes; rw [h]; exact he
theorem SetRes.yes {B : Nat} {A : Option Addr} {l : List Ch} {e : Ending} {w : World} {neg : Bool} {ins : List Ch} {n : Nat} (h : setOf l = some (neg, ins, n)) {f : Value} (he : e = .returned (.tuple #[f, .int .i64 (n : Int)])) (hf : SetFn B w A l f neg ins) : SetRes B A l e w := by
  unfold SetRes; rw [h]; exact ⟨f, he, hf⟩
theorem ret_tup {f : Value} {a b : Int} (h : a = b) : Ending.returned (.tuple #[f, .int .i64 a]) = .returned (.tuple #[f, .int .i64 b]) := by rw [h]
theorem endAt_nil : endAt [] = none := rfl
theorem setOf_short {l : List Ch} (h : l.length < 2) : setOf l = none := by
  unfold setOf
  rw [List.drop_of_length_le (by have := setFrom_pos l; omega), endAt_nil]
  split <;> rfl
theorem setOf_open {l : List Ch} (h : isC (l.getD 0 (0, true)) 91 = false) : setOf l = none := by
  unfold setOf; rw [if_neg (by rw [h]; decide)]
theorem setOf_end {l : List Ch} (h : l.length ≤ setFrom l + 1) : setOf l = none := by
  unfold setOf
  rw [List.drop_of_length_le h, endAt_nil]
  split <;> rfl
theorem idxI_neg {l : List Ch} (h : idxI l < 0) : endAt l = none := by
  unfold idxI at h
  cases he : endAt l with
  | none => rfl
  | some k => rw [he] at h; simp at h; omega
theorem setOf_lost {l : List Ch} (h : endAt (l.drop (setFrom l + 1)) = none) : setOf l = none := by
  unfold setOf
  rw [h]
  split <;> rfl
theorem setOf_yes {l : List Ch} {k : Nat} (h0 : isC (l.getD 0 (0, true)) 91 = true) (h : endAt (l.drop (setFrom l + 1)) = some k) :
    setOf l = some (isNot (l.getD 1 (0, true)), (l.drop (setFrom l)).take (k + 1), setFrom l + k + 2) := by
  unfold setOf
  rw [if_pos h0, h]
theorem Cs.cut {w : World} {b off : Nat} {l : List Ch} (h : Cs w (some ⟨b, off, none⟩) l) {k : Nat} (hk : k < l.length) : Cs w (some ⟨b, off + k * 2, none⟩) (l.drop k) := by
  refine ⟨chv_length _, fun _ => ?_⟩
  obtain ⟨b', off', e, hb, hc⟩ := h.2 (by omega)
  injection e with e
  injection e with e1 e2
  subst e1 e2
  refine ⟨b, off + k * 2, rfl, hb, fun j u hu => ?_⟩
  rw [← chv_drop, List.getElem?_drop] at hu
  have := hc _ u hu
  rwa [← Nat.add_assoc] at this
theorem Cs.take {w : World} {A : Option Addr} {l : List Ch} (h : Cs w A l) (k : Nat) (hk : k ≤ l.length) : Cs w A (l.take k) := by
  have := Rc.take h hk
  rw [chv_take] at this
  have hl : (l.take k).length = k := by simp; omega
  unfold Cs
  rwa [hl]
theorem endAt_lt {l : List Ch} {k : Nat} (h : endAt l = some k) : k < l.length := (List.findIdx?_eq_some_iff_getElem.1 h).1

set_option maxRecDepth 100000 in
set_option maxHeartbeats 1000000 in
theorem set_any (A : Option Addr) (c : Nat) (l : List Ch) (hl : l.length ≤ 1000000000) (hc : l.length ≤ c) (hcm : c ≤ maxLen) (w : World) (hr : Cs w A l) :
    Calls Tryd.prog 60 #[.slice A l.length c] w fun e w' => SetRes w.heap.size A l e w' ∧ Below w.heap.size w w' := by
  have hlI : (l.length : Int) ≤ 1000000000 := by omega
  have HR := hid hr
  clear hr
  unfold maxLen at hcm
  by_cases h2 : l.length < 2
  · have hi : (l.length : Int) < 2 := by omega
    have HN := hid (setOf_short h2)
    go_enter Tryd.func60, Tryd.ntmps60
    go_wp2_with fail
    go_ret2
    exact ⟨SetRes.no HN.out rfl, Below.refl _ _⟩
  · have hi : ¬ (l.length : Int) < 2 := by omega
    obtain ⟨b, off, hA, hb, a1, a2⟩ := Cs.at_ HR.out (show 0 < l.length by omega)
    subst hA
    obtain ⟨b1, b2⟩ := Cs.cell HR.out (show 1 < l.length by omega)
    have hso := @setOf_open l
    have hsy := @setOf_yes l
    have hsf : setFrom l = if isNot (l.getD 1 (0, true)) then 2 else 1 := rfl
    obtain ⟨c0, hc0⟩ : ∃ c0, c0 = l.getD 0 (0, true) := ⟨_, rfl⟩
    obtain ⟨c1, hc1⟩ : ∃ c1, c1 = l.getD 1 (0, true) := ⟨_, rfl⟩
    rw [← hc0] at a1 a2 hso hsy
    rw [← hc1] at b1 b2 hsf hsy
    have HSO := hid hso
    have HSY : Hid (∀ k, isC c0 91 = true → endAt (l.drop (setFrom l + 1)) = some k → setOf l = some (isNot c1, (l.drop (setFrom l)).take (k + 1), setFrom l + k + 2)) := hid fun k => hsy
    have HSF := hid hsf
    rw [Nat.zero_mul, Nat.add_zero] at a1 a2
    rw [Nat.one_mul] at b1 b2
    clear hso hsy hsf hc0 hc1 h2
    go_enter Tryd.func60, Tryd.ntmps60
    go_wp2_with fail
    refine (is_one c0 91 _).mono ?_
    rintro e w1 ⟨rfl, hB1⟩
    cases ho : isC c0 91 with
    | false =>
      have HN := hid (HSO.out ho)
      clear ho
      go_wp2_with fail
      go_ret2
      exact ⟨SetRes.no HN.out rfl, hB1⟩
    | true =>
      have HO := hid ho
      have b1 := (hB1.cell (p := ⟨b, off + 2, none⟩) hb).trans b1
      have b2 := (hB1.cell (p := ⟨b, off + 2 + 1, none⟩) hb).trans b2
      clear ho
      go_wp2_with fail
      refine (is_not c1 _).mono ?_
      rintro e w2 ⟨rfl, hB2⟩
      have hB2 := hB1.trans (hB2.mono hB1.size)
      have hz2 := hB2.size
      cases hn : isNot c1 with
      | true =>
        have HN := hid hn
        have hsf : setFrom l = 2 := by rw [HSF.out, hn]; rfl
        have HS := hid hsf
        clear hn hsf HSF
        by_cases h3 : l.length ≤ 3
        · have hi3 : (l.length : Int) ≤ 3 := by omega
          have HX := hid (setOf_end (l := l) (by rw [HS.out]; exact h3))
          clear h3
          go_wp2_with fail
          go_ret2
          exact ⟨SetRes.no HX.out rfl, hB2.alloc hB2.size _⟩
        · have hi3 : ¬ (l.length : Int) ≤ 3 := by omega
          have hi4 : (3 : Int) ≤ l.length := by omega
          have hi5 : (3 : Int) ≤ c := by omega
          have hce : ¬ c = 3 := by omega
          go_wp2_with fail
          have hB3 : Below w.heap.size w (w2.alloc (.cells #[.bool true] 4)) := hB2.alloc hB2.size _
          have hdl : (l.drop 3).length = l.length - 3 := by simp
          have hcs : Cs (w2.alloc (.cells #[.bool true] 4)) (some ⟨b, off + 6, none⟩) (l.drop 3) := Cs.cut (Rc.below HR.out hB3) (by omega)
          have hne : At (w2.alloc (.cells #[.bool true] 4)) w2.heap.size 4 #[.bool true] := At.new _ _ _
          have hz3 : (w2.alloc (.cells #[.bool true] 4)).heap.size = w2.heap.size + 1 := by simp
          rw [← hdl]
          generalize w2.alloc (.cells #[.bool true] 4) = w3 at hB3 hcs hne hz3 ⊢
          refine (indexFunc_any (some ⟨b, off + 6, none⟩) (c - 3) (l.drop 3) (by omega) w3 hcs).mono ?_
          rintro e w4 ⟨rfl, hB4⟩
          have hB5 := hB3.trans (hB4.mono hB3.size)
          have hne := hne.below hB4 (by omega)
          have hz4 := hB4.size
          clear hcs hB4 hB3
          cases he : endAt (l.drop 3) with
          | none =>
            have HX := hid (setOf_lost (l := l) (by rw [HS.out]; exact he))
            have hv : idxI (l.drop 3) = -1 := by rw [idxI, he]
            rw [hv]
            clear he hv
            go_wp2_with fail
            go_ret2
            exact ⟨SetRes.no HX.out rfl, hB5⟩
          | some k =>
            have hk := endAt_lt he
            rw [hdl] at hk
            have hv : idxI (l.drop 3) = (k : Int) := by rw [idxI, he]
            have HX := hid (HSY.out k HO.out (by rw [HS.out]; exact he))
            rw [hv]
            have hsl1 : (k : Int) + 3 ≤ l.length := by omega
            have hsl2 : (k : Int) + 3 ≤ c := by omega
            have hsl3 : (2 : Int) ≤ (k : Int) + 3 := by omega
            have hkI : (0 : Int) ≤ (k : Int) := by omega
            have hce2 : ¬ c = 2 := by omega
            clear he hv
            go_wp2_with fail
            go_ret2
            have hB6 : Below w.heap.size w (w4.alloc (.cells #[.slice (some ⟨b, off + 4, none⟩) (k + 1) (c - 2)] 116)) := hB5.alloc hB5.size _
            have hil : ((l.drop 2).take (k + 1)).length = k + 1 := by rw [List.length_take, List.length_drop]; omega
            have hx := HX.out
            rw [HN.out, HS.out] at hx
            refine ⟨SetRes.yes hx (ret_tup (by omega)) ⟨w4.heap.size, w2.heap.size, b, off, 2, c - 2, rfl, rfl, hB5.size, hz2, by rw [hil]; omega, ?_, hne.alloc _, by omega, by rw [hil]⟩, hB6⟩
            rw [hil]
            exact At.new _ _ _
      | false =>
        have HN := hid hn
        have hsf : setFrom l = 1 := by rw [HSF.out, hn]; rfl
        have HS := hid hsf
        clear hn hsf HSF
        by_cases h3 : l.length ≤ 2
        · have hi3 : (l.length : Int) ≤ 2 := by omega
          have HX := hid (setOf_end (l := l) (by rw [HS.out]; exact h3))
          clear h3
          go_wp2_with fail
          go_ret2
          exact ⟨SetRes.no HX.out rfl, hB2.alloc hB2.size _⟩
        · have hi3 : ¬ (l.length : Int) ≤ 2 := by omega
          have hi4 : (2 : Int) ≤ l.length := by omega
          have hi5 : (2 : Int) ≤ c := by omega
          have hce : ¬ c = 2 := by omega
          go_wp2_with fail
          have hB3 : Below w.heap.size w (w2.alloc (.cells #[.bool false] 4)) := hB2.alloc hB2.size _
          have hdl : (l.drop 2).length = l.length - 2 := by simp
          have hcs : Cs (w2.alloc (.cells #[.bool false] 4)) (some ⟨b, off + 4, none⟩) (l.drop 2) := Cs.cut (Rc.below HR.out hB3) (by omega)
          have hne : At (w2.alloc (.cells #[.bool false] 4)) w2.heap.size 4 #[.bool false] := At.new _ _ _
          have hz3 : (w2.alloc (.cells #[.bool false] 4)).heap.size = w2.heap.size + 1 := by simp
          rw [← hdl]
          generalize w2.alloc (.cells #[.bool false] 4) = w3 at hB3 hcs hne hz3 ⊢
          refine (indexFunc_any (some ⟨b, off + 4, none⟩) (c - 2) (l.drop 2) (by omega) w3 hcs).mono ?_
          rintro e w4 ⟨rfl, hB4⟩
          have hB5 := hB3.trans (hB4.mono hB3.size)
          have hne := hne.below hB4 (by omega)
          have hz4 := hB4.size
          clear hcs hB4 hB3
          cases he : endAt (l.drop 2) with
          | none =>
            have HX := hid (setOf_lost (l := l) (by rw [HS.out]; exact he))
            have hv : idxI (l.drop 2) = -1 := by rw [idxI, he]
            rw [hv]
            clear he hv
            go_wp2_with fail
            go_ret2
            exact ⟨SetRes.no HX.out rfl, hB5⟩
          | some k =>
            have hk := endAt_lt he
            rw [hdl] at hk
            have hv : idxI (l.drop 2) = (k : Int) := by rw [idxI, he]
            have HX := hid (HSY.out k HO.out (by rw [HS.out]; exact he))
            rw [hv]
            have hsl1 : (k : Int) + 2 ≤ l.length := by omega
            have hsl2 : (k : Int) + 2 ≤ c := by omega
            have hsl3 : (1 : Int) ≤ (k : Int) + 2 := by omega
            have hkI : (0 : Int) ≤ (k : Int) := by omega
            have hce2 : ¬ c = 1 := by omega
            clear he hv
            go_wp2_with fail
            go_ret2
            have hB6 : Below w.heap.size w (w4.alloc (.cells #[.slice (some ⟨b, off + 2, none⟩) (k + 1) (c - 1)] 116)) := hB5.alloc hB5.size _
            have hil : ((l.drop 1).take (k + 1)).length = k + 1 := by rw [List.length_take, List.length_drop]; omega
            have hx := HX.out
            rw [HN.out, HS.out] at hx
            refine ⟨SetRes.yes hx (ret_tup (by omega)) ⟨w4.heap.size, w2.heap.size, b, off, 1, c - 1, rfl, rfl, hB5.size, hz2, by rw [hil]; omega, ?_, hne.alloc _, by omega, by rw [hil]⟩, hB6⟩
            rw [hil]
            exact At.new _ _ _
end Go.Proofs.YtklihdlfbhgpeaaDoor
