/-
  The walk of the reference's match.
-/
import Derived.Test.YtklihdlfbhgpeaaG12
namespace Go.Proofs.Ytklihdlfbhgpeaa
open Go.RowKit
set_option linter.unusedVariables false

theorem Cs.cutA {x : World} {A : Option Addr} {l : List Ch} (h : Cs x A l) {c k : Nat} (hc : l.length ≤ c) : Cs x (cutA A c k) (l.drop k) := by
  by_cases hk : k < l.length
  · obtain ⟨b, off, rfl, _⟩ := h.2 (by omega)
    have := Cs.cut h hk
    unfold Ytklihdlfbhgpeaa.cutA
    rw [if_neg (by omega), cut_some]
    exact this
  · rw [List.drop_of_length_le (by omega)]
    exact Rc.nil
/-- What the recursion says of shorter lists. -/
def RecOk (n : Nat) : Prop := ∀ (l : List Ch) (A : Option Addr) (c : Nat) (s : List UInt8) (w : World), l.length ≤ n → l.length ≤ c → c ≤ maxLen → l.length ≤ 1000000 → s.length ≤ 1000000 → Cs w A l →
  Calls Try.prog 27 #[.slice A l.length c, .string ⟨s.toArray⟩] w fun e w' => e = .returned (.bool (matchP (pieces l) s)) ∧ Below w.heap.size w w'
/-- The recursion behind k characters, its slice as the walk spells it. -/
def RecAt (A : Option Addr) (l : List Ch) (c k : Nat) (w : World) : Prop := ∀ (s : List UInt8) (W : World), s.length ≤ 1000000 → Below w.heap.size w W →
  Calls Try.prog 27 #[.slice A (l.length - k) c, .string ⟨s.toArray⟩] W fun e W' => e = .returned (.bool (matchP (pieces (l.drop k)) s)) ∧ Below W.heap.size W W'
theorem RecOk.at_ {n : Nat} (h : RecOk n) {b off c k : Nat} {l : List Ch} {w : World} (hk : 0 < k) (hn : l.length ≤ n + 1) (hl : l.length ≤ 1000000) (hc : l.length ≤ c) (hcm : c ≤ maxLen) (hr : Cs w (some ⟨b, off, none⟩) l) (hkl : k ≤ l.length) :
    (c = k ∧ RecAt (some ⟨b, off, none⟩) l 0 k w) ∨ (¬ c = k ∧ RecAt (some ⟨b, off + k * 2, none⟩) l (c - k) k w) := by
  have hd : (l.drop k).length = l.length - k := by simp
  by_cases hce : c = k
  · refine .inl ⟨hce, fun s W hs hW => ?_⟩
    have := h (l.drop k) (some ⟨b, off, none⟩) 0 s W (by omega) (by omega) (by simp [maxLen]) (by omega) hs (by
      rw [List.drop_of_length_le (by omega)]
      exact Rc.nil)
    rwa [hd] at this
  · refine .inr ⟨hce, fun s W hs hW => ?_⟩
    have hcs := Cs.cutA (Rc.below hr hW) (c := c) (k := k) hc
    unfold Ytklihdlfbhgpeaa.cutA at hcs
    rw [if_neg hce, cut_some] at hcs
    have := h (l.drop k) _ (c - k) s W (by omega) (by omega) (by omega) (by omega) hs hcs
    rwa [hd] at this
theorem tail_take (s : List UInt8) : s.tail.take (s.length - 1) = s.drop 1 := by rw [List.drop_one]; exact List.take_of_length_le (by simp)
theorem anyTail_drop (f : List UInt8 → Bool) (s : List UInt8) (h : ∀ j, j ≤ s.length → f (s.drop j) = false) : anyTail f s = false := by
  rw [← Bool.not_eq_true, anyTail_iff]
  rintro ⟨k, hk, hm⟩
  rw [h k hk] at hm
  cases hm

set_option maxRecDepth 100000 in
set_option maxHeartbeats 4000000 in
theorem refMatch_step (n : Nat) (ih : RecOk n) (b off c : Nat) (l : List Ch) (s : List UInt8) (w : World) (h0 : 0 < l.length) (hn : l.length ≤ n + 1) (hc : l.length ≤ c) (hcm : c ≤ maxLen) (hl : l.length ≤ 1000000) (hs : s.length ≤ 1000000)
    (hr : Cs w (some ⟨b, off, none⟩) l) :
    Calls Try.prog 27 #[.slice (some ⟨b, off, none⟩) l.length c, .string ⟨s.toArray⟩] w fun e w' => e = .returned (.bool (matchP (pieces l) s)) ∧ Below w.heap.size w w' := by
  have h1 := ih.at_ (k := 1) (by omega) hn hl hc hcm hr (by omega)
  have IH := hid (fun k hk hkl => ih.at_ (k := k) hk hn hl hc hcm hr hkl)
  have hlI : (l.length : Int) ≤ 1000000 := by omega
  have hsI : (s.length : Int) ≤ 1000000 := by omega
  have h0N : ¬ l.length = 0 := by omega
  have h0I : ¬ (l.length : Int) = 0 := by omega
  have h0P : (0 : Int) < l.length := by omega
  have h1P : (1 : Int) ≤ l.length := by omega
  have h1C : (1 : Int) ≤ c := by omega
  obtain ⟨a1, a2⟩ := Cs.cell hr h0
  rw [Nat.zero_mul, Nat.add_zero] at a1 a2
  have hb : b < w.heap.size := by
    obtain ⟨b', off', e, hb, _⟩ := hr.2 h0
    injection e with e; injection e with e1 e2; subst e1; exact hb
  have hcons := drop_ch h0
  rw [List.drop_zero] at hcons
  obtain ⟨c0, hc0⟩ : ∃ c0, c0 = l.getD 0 (0, true) := ⟨_, rfl⟩
  rw [← hc0] at a1 a2 hcons
  have HCONS := hid hcons
  have HR := hid hr
  unfold maxLen at hcm
  clear hcons hc0 hr ih
  rcases h1 with ⟨hce, h1⟩ | ⟨hce, h1⟩
  all_goals
    have H1 := hid h1
    clear h1
    go_enter Try.func27, Try.ntmps27
    go_wp2_with fail
    refine (refIs_any c0 42 _).mono ?_
    rintro e w1 ⟨rfl, hB1⟩
    have a1 := (hB1.cell (p := ⟨b, off, none⟩) hb).trans a1
    have a2 := (hB1.cell (p := ⟨b, off + 1, none⟩) hb).trans a2
    cases h42 : isC c0 42 with
    | true =>
      have HST := hid (fun t => (congrArg (fun x => matchP (pieces x) t) HCONS.out).trans (match_star (l := l.drop 1) h42 t))
      clear h42 a1 a2 IH
      go_wp2_with fail
      go_loopg [5] (s.length + 1) (fun m v5 wr => ∃ i : Nat, m + i = s.length + 1 ∧ v5 = .int .i64 i ∧ (∀ j, j < i → matchP (pieces (l.drop 1)) (s.drop j) = false) ∧ Below w.heap.size w wr)
      case atStart => exact ⟨0, rfl, rfl, by omega, hB1⟩
      case round =>
        clear hB1
        obtain ⟨i, hm, rfl, hno, hB⟩ := hrel
        have HM := hid hm
        have HN := hid hno
        clear hm hno
        by_cases hi : i ≤ s.length
        · have hiI : (i : Int) ≤ s.length := by omega
          have hdl : (s.drop i).length ≤ 1000000 := by rw [List.length_drop]; omega
          go_wp2_with fail
          refine wp_region_quiet_tail 5 (by kernel_rfl) (by kernel_rfl) ?_
          simp only [List.take_succ_cons, List.take_zero, List.drop_succ_cons, List.drop_zero]
          repeat (go_big_quiet_step (fail))
          refine wpQuiet_nil ?_
          intro w2 hw'
          obtain ⟨nr, hw2⟩ := hw'
          have hB2 : Below w.heap.size w w2 := by rw [hw2]; exact below_drewN hB nr
          clear hw2 hB
          go_wp2_with fail
          have hrec := H1.out (s.drop i) w2 hdl hB2
          obtain ⟨o, ho⟩ : ∃ o, o = matchP (pieces (l.drop 1)) (s.drop i) := ⟨_, rfl⟩
          rw [← ho] at hrec
          refine hrec.mono ?_
          rintro e w3 ⟨rfl, hB3⟩
          have hB4 := hB2.trans (hB3.mono hB2.size)
          have HO := hid ho
          clear hrec ho hB2 hB3
          cases o with
          | true =>
            go_wp2_with fail
            go_ret
            exact ⟨by rw [HST.out, (anyTail_iff _ _).2 ⟨i, hi, HO.out.symm⟩]; rfl, hB4⟩
          | false =>
            go_wp2_with fail
            go_roundg (gk - 1)
            case measure => go_light; have := HM.out; omega
            case rel =>
              go_light
              have := HM.out
              refine ⟨i + 1, by omega, int_cast (by omega), fun j hj => ?_, hB4⟩
              by_cases hji : j = i
              · subst hji; exact HO.out.symm
              · exact HN.out j (by omega)
        · have hiI : ¬ (i : Int) ≤ s.length := by omega
          go_wp2_with fail
          go_ret
          exact ⟨by rw [HST.out, anyTail_drop _ _ (fun j hj => HN.out j (by omega))]; rfl, hB⟩
    | false =>
      by_cases hse : s = []
      · subst hse
        have HST : Hid (matchP (pieces l) [] = false) := hid (by rw [HCONS.out]; exact match_stop h42)
        clear h42
        go_wp2_with fail
        go_ret
        exact ⟨by rw [HST.out]; rfl, hB1⟩
      · have hsne : s.isEmpty = false := by cases s with | nil => exact absurd rfl hse | cons a t => rfl
        have hsp : 0 < s.length := List.length_pos_iff.2 hse
        have hspI : (0 : Int) < s.length := by omega
        have hspJ : (1 : Int) ≤ s.length := by omega
        have hs1 : (s.drop 1).length ≤ 1000000 := by rw [List.length_drop]; omega
        have hsd := drop_byte hsp
        rw [List.drop_zero] at hsd
        have hix := fun W => run_index_at (P := Try.prog) 9 Try.underlying9 s 0 hsp _ rfl 0 rfl .i64 W
        obtain ⟨x, hx⟩ : ∃ x, x = s.getD 0 0 := ⟨_, rfl⟩
        rw [← hx] at hsd hix
        have HSD := hid hsd
        have H42 := hid h42
        clear hx hse h42 hsd
        go_wp2_with fail
        refine (refIs_any c0 63 _).mono ?_
        rintro e w2 ⟨rfl, hB2⟩
        have a1 := (hB2.cell (p := ⟨b, off, none⟩) (Nat.lt_of_lt_of_le hb hB1.size)).trans a1
        have hB3 := hB1.trans (hB2.mono hB1.size)
        clear hB1 hB2 a2
        cases h63 : isC c0 63 with
        | true =>
          have HMA : Hid (matchP (pieces l) s = matchP (pieces (l.drop 1)) (s.drop 1)) := hid (by rw [HSD.out, HCONS.out]; exact match_any h63 x _)
          clear h63 IH
          go_wp2_with fail
          refine wp_region_quiet_tail 4 (by kernel_rfl) (by kernel_rfl) ?_
          simp only [List.take_succ_cons, List.take_zero, List.drop_succ_cons, List.drop_zero]
          repeat (go_big_quiet_step (fail))
          refine wpQuiet_nil ?_
          intro w4 hw'
          obtain ⟨nr, hw4⟩ := hw'
          have hB4 : Below w.heap.size w w4 := by rw [hw4]; exact below_drewN hB3 nr
          clear hw4 hB3 hix a1
          go_wp2_with fail
          rw [tail_take s]
          have hrec := H1.out (s.drop 1) w4 hs1 hB4
          rw [← HMA.out] at hrec
          obtain ⟨o, ho⟩ : ∃ o, o = matchP (pieces l) s := ⟨_, rfl⟩
          rw [← ho] at hrec
          refine hrec.mono ?_
          rintro e w5 ⟨rfl, hB5⟩
          have HO := hid ho
          have hB6 := hB4.trans (hB5.mono hB4.size)
          clear hrec ho
          go_wp2_with fail
          go_ret
          exact ⟨by rw [← HO.out]; rfl, hB6⟩
        | false =>
          have H63 := hid h63
          clear h63
          go_wp2_with fail
          refine (refSet_any (some ⟨b, off, none⟩) _ l x hl _ (HR.out.below hB3)).mono ?_
          rintro e w4 ⟨rfl, hB4⟩
          have a1 := (hB4.cell (p := ⟨b, off, none⟩) (Nat.lt_of_lt_of_le hb hB3.size)).trans a1
          have hB5 := hB3.trans (hB4.mono hB3.size)
          clear hB3 hB4
          cases hset : setOf l with
          | some r =>
            obtain ⟨neg, ins, k⟩ := r
            have hkl := setOf_len hset
            have hc1 : ¬ c = 1 := fun e => by
              have := setOf_short (l := l) (by omega)
              rw [hset] at this
              cases this
            rw [refSetV_some hset]
            have hmt := match_theSet hset x (s.drop 1)
            rw [← HSD.out] at hmt
            have h2 := IH.out k hkl.1 hkl.2
            obtain ⟨o, ho⟩ : ∃ o, o = (inSet ins x != neg) := ⟨_, rfl⟩
            rw [← ho] at hmt ⊢
            have HMT := hid hmt
            have k1 : (0 : Int) < (k : Int) := by omega
            have k2 : (k : Int) ≤ l.length := by omega
            have k3 : (k : Int) ≤ c := by omega
            dsimp only
            clear hset hmt ho hkl IH a1
            cases o with
            | false =>
              go_wp2_with fail
              all_goals (go_quiet (fail); go_wp2_with fail; go_ret; exact ⟨by rw [HMT.out]; rfl, below_drewN hB5 nq⟩)
            | true =>
              all_goals first
              | (exfalso; exact hc1 hce)
              | (rcases h2 with ⟨hck, h2⟩ | ⟨hck, h2⟩
                 all_goals
                   have H2 := hid h2
                   clear h2
                   go_wp2_with fail
                   refine wp_region_quiet_tail 7 (by kernel_rfl) (by kernel_rfl) ?_
                   simp only [List.take_succ_cons, List.take_zero, List.drop_succ_cons, List.drop_zero]
                   repeat (go_big_quiet_step (fail))
                   refine wpQuiet_nil ?_
                   intro w6 hw'
                   obtain ⟨nr, hw6⟩ := hw'
                   have hB6 : Below w.heap.size w w6 := by rw [hw6]; exact below_drewN hB5 nr
                   clear hw6 hB5 hix
                   go_wp2_with fail
                   rw [tail_take s]
                   have hrec := H2.out (s.drop 1) w6 hs1 hB6
                   obtain ⟨o, ho⟩ : ∃ o, o = matchP (pieces (l.drop k)) (s.drop 1) := ⟨_, rfl⟩
                   rw [← ho] at hrec
                   refine hrec.mono ?_
                   rintro e w7 ⟨rfl, hB7⟩
                   have HO := hid ho
                   have hB8 := hB6.trans (hB7.mono hB6.size)
                   clear hrec ho
                   go_wp2_with fail
                   go_ret
                   exact ⟨by rw [HMT.out, ← HO.out]; rfl, hB8⟩)
          | none =>
            rw [refSetV_none hset]
            have hml : matchP (pieces l) s = (x == c0.1 && matchP (pieces (l.drop 1)) (s.drop 1)) := by
              rw [HSD.out, HCONS.out]
              exact match_lit (by rw [← HCONS.out]; exact hset) H42.out H63.out x _
            have hu := u8_eqI c0.1 x
            have hux : (x == c0.1) = (c0.1 == x) := by rw [Bool.eq_iff_iff, beq_iff_eq, beq_iff_eq]; exact eq_comm
            rw [hux, ← hu] at hml
            have HML := hid hml
            dsimp only
            clear hset hml hu hux IH
            cases he : ((c0.1.toNat : Int) == (x.toNat : Int)) with
            | false =>
              have HE := hid he
              have he2 : ¬ (c0.1.toNat : Int) = (x.toNat : Int) := by simpa using he
              go_wp2_with fail
              go_quiet (fail)
              go_wp2_with fail
              go_ret
              exact ⟨by rw [HML.out, HE.out]; rfl, below_drewN hB5 nq⟩
            | true =>
              have HE := hid he
              go_wp2_with fail
              refine wp_region_quiet_tail 12 (by kernel_rfl) (by kernel_rfl) ?_
              simp only [List.take_succ_cons, List.take_zero, List.drop_succ_cons, List.drop_zero]
              repeat (go_big_quiet_step (fail))
              refine wpQuiet_nil ?_
              intro w6 hw'
              obtain ⟨nr, hw6⟩ := hw'
              have hB6 : Below w.heap.size w w6 := by rw [hw6]; exact below_drewN hB5 nr
              clear hw6 hB5 hix a1
              go_wp2_with fail
              rw [tail_take s]
              have hrec := H1.out (s.drop 1) w6 hs1 hB6
              obtain ⟨o, ho⟩ : ∃ o, o = matchP (pieces (l.drop 1)) (s.drop 1) := ⟨_, rfl⟩
              rw [← ho] at hrec
              refine hrec.mono ?_
              rintro e w7 ⟨rfl, hB7⟩
              have HO := hid ho
              have hB8 := hB6.trans (hB7.mono hB6.size)
              clear hrec ho he
              go_wp2_with fail
              go_ret
              exact ⟨by rw [HML.out, HE.out, ← HO.out]; rfl, hB8⟩
end Go.Proofs.Ytklihdlfbhgpeaa
