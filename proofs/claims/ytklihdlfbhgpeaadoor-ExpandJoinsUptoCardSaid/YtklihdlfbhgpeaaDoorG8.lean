/-
  The walk of the program's Match.
-/
import Derived.Test.YtklihdlfbhgpeaaDoorG7
namespace Go.Proofs.YtklihdlfbhgpeaaDoor
open Go.RowKit
set_option linter.unusedVariables false

/-- A pattern that came in: its runs lie at A. -/
structure Pat (w : World) (A : Option Addr) (rs : List RunV) : Prop where
  rows : Rns w A rs
  n : rs.length ≤ 100000000
  each : ∀ r ∈ rs, r.t.length ≤ 1000000000
  all : (chs rs).length ≤ 1000000000
theorem Pat.below {w w' : World} {A : Option Addr} {rs : List RunV} (h : Pat w A rs) (hb : Below w.heap.size w w') : Pat w' A rs := ⟨Rc.below h.rows hb, h.n, h.each, h.all⟩
theorem piecesF_len : ∀ (f : Nat) (l : List Ch), (piecesF f l).length ≤ l.length
  | 0, l => by simp [piecesF]
  | f + 1, [] => by simp [piecesF]
  | f + 1, c :: l => by
    have h1 := pieceOf_pos (c :: l)
    have h2 := piecesF_len f ((c :: l).drop (pieceOf (c :: l)).2)
    simp only [piecesF, List.length_cons]
    rw [List.length_drop, List.length_cons] at h2
    omega
theorem pieces_len (l : List Ch) : (pieces l).length ≤ l.length := piecesF_len _ l

set_option maxRecDepth 100000 in
set_option maxHeartbeats 2000000 in
theorem match_any' (A : Option Addr) (c : Nat) (rs : List RunV) (s : List UInt8) (hs : s.length ≤ 1000000000) (w : World) (hp : Pat w A rs) :
    Calls Tryd.prog 46 #[.slice A rs.length c, .string ⟨s.toArray⟩] w fun e w' => e = .returned (.bool (matchP (pieces (chs rs)) s)) ∧ Below w.heap.size w w' := by
  have hln := pieces_len (chs rs)
  have hall := hp.all
  have hpc := pieces_any A c rs hp.n hp.each hp.all w hp.rows
  have HPC := hid hpc
  obtain ⟨L, hL⟩ : ∃ L, L = pieces (chs rs) := ⟨_, rfl⟩
  rw [← hL] at hln ⊢
  rw [← hL] at HPC
  have hn : L.length ≤ 1000000000 := by omega
  have hnI : (L.length : Int) ≤ 1000000000 := by omega
  have hsI : (s.length : Int) ≤ 1000000000 := by omega
  clear hpc hln hall hp hL
  go_enter Tryd.func46, Tryd.ntmps46
  go_wp2_with fail
  go_step3
  go_wp2_with fail
  refine HPC.out.mono ?_
  rintro e w1 ⟨⟨v, rfl, hps⟩, hB1⟩
  obtain ⟨A2, c2, rfl, hcell⟩ := hps.form
  have HP := hid hps
  clear hcell hps
  go_wp2_with fail
  go_step3
  go_wp2_with fail
  go_loopg [6, 7, 8, 9] (mu L.length s.length none 0 0) (fun m v6 v7 v8 v9 wr => ∃ (p i : Nat) (back : Option Nat) (fr : Nat), m = mu L.length s.length back fr i ∧ v6 = .int .i64 p ∧ v7 = .int .i64 (backI back) ∧ v8 = .int .i64 fr ∧ v9 = .int .i64 i ∧
    Way L s p i back fr ∧ Below w1.heap.size w1 wr)
  case atStart => exact ⟨0, 0, none, 0, rfl, rfl, rfl, rfl, rfl, Way.start L s, Below.refl _ _⟩
  case round =>
    obtain ⟨p, i, back, fr, hm, rfl, rfl, rfl, rfl, hw, hB⟩ := hrel
    obtain ⟨g0, rfl⟩ : ∃ g0 : Nat, g0 = gk := ⟨_, rfl⟩
    have HM := hid hm
    clear hm
    by_cases hi : i < s.length
    · have hiI : (i : Int) < (s.length : Int) := by omega
      have HW := hid hw
      have hpl := hw.ha
      clear hw
      go_wp2_with fail
      go_loopg [6, 7, 8] (L.length - p) (fun m v6 v7 v8 wx => ∃ (p' : Nat) (back' : Option Nat) (fr' : Nat), m = L.length - p' ∧ v6 = .int .i64 p' ∧ v7 = .int .i64 (backI back') ∧ v8 = .int .i64 fr' ∧
        Way L s p' i back' fr' ∧ mu L.length s.length back' fr' i ≤ g0 ∧ wr = wx)
      case atStart => exact ⟨p, back, fr, rfl, rfl, rfl, rfl, HW.out, Nat.le_of_eq HM.out.symm, rfl⟩
      case round =>
        clear hpl HW HM
        obtain ⟨p', back', fr', hm, rfl, rfl, rfl, hw, hmu, hwe⟩ := hrel
        subst hwe
        have HM := hid hm
        have HMU := hid hmu
        have hpl := hw.ha
        have HW := hid hw
        clear hm hmu hw
        by_cases hp : p' < L.length
        · obtain ⟨A3, c3, he, hcell⟩ := PcsAt.form (HP.out.below hB)
          injection he with he1 _ he2
          subst he1 he2
          obtain ⟨b, off, f, hA, hb, a1, a2, a3, hpt⟩ := hcell p' hp
          subst hA
          have hpI : (p' : Int) < (L.length : Int) := by omega
          clear hcell a3
          cases hst : (L.getD p' .star).isStar with
          | true =>
            rw [hst] at a1
            have HST := hid hst
            clear hst hpt a2
            go_wp2_with fail
            go_roundg (L.length - (p' + 1))
            case measure => go_light; have := HM.out; omega
            case rel =>
              go_light
              have hw := HW.out
              exact ⟨p' + 1, some (p' + 1), i, rfl, int_cast (by omega), rfl, rfl, hw.star hp HST.out, Nat.le_trans (mu_star hp (fun b hb => (hw.run b hb).1)) HMU.out, rfl⟩
          | false =>
            rw [hst] at a1
            obtain ⟨k, caps, rfl, henter, hone⟩ := hpt.fn hst
            have HST := hid hst
            have HONE := hid hone
            clear hst hpt hone
            have hix := fun W => run_index_at (P := Tryd.prog) 9 Tryd.underlying9 s i hi _ rfl (i : Int) rfl .i64 W
            have hho := fun ho => HW.out.hit hp hi HST.out ho
            have hhm := fun (ho : (L.getD p' .star).one (s.getD i 0) = false) => (fun (_ : p' < L.length) => And.intro HST.out ho)
            obtain ⟨x, hx⟩ : ∃ x, x = s.getD i 0 := ⟨_, rfl⟩
            rw [← hx] at hix hho hhm
            have HHO := hid hho
            have HHM := hid hhm
            have HX := hid hx
            clear hho hhm hx
            obtain ⟨bA, hbA⟩ : ∃ bA, bA = b := ⟨_, rfl⟩
            obtain ⟨offA, hoffA⟩ : ∃ offA, offA = off := ⟨_, rfl⟩
            subst hbA hoffA
            go_wp2_with fail
            refine wp_region_quiet_tail 13 (by kernel_rfl) (by kernel_rfl) ?_
            simp only [List.take_succ_cons, List.take_zero, List.drop_succ_cons, List.drop_zero]
            repeat (go_big_quiet_step (fail))
            refine wpQuiet_nil ?_
            intro w2 hw'
            obtain ⟨nr, hw2⟩ := hw'
            have hB2 : Below wr.heap.size wr w2 := by rw [hw2]; exact Below.drewN' (Below.refl _ _) nr
            clear hw2 hix a1 a2
            go_wp2_with fail
            have hone := HONE.out x w2 hB2
            obtain ⟨o, ho⟩ : ∃ o, o = (L.getD p' .star).one x := ⟨_, rfl⟩
            rw [← ho] at hone
            refine hone.mono ?_
            rintro e w3 ⟨rfl, hB3⟩
            have hB4 := hB.trans ((hB2.trans (hB3.mono hB2.size)).mono hB.size)
            have HO := hid ho
            clear hone ho hB2 hB3 HONE henter
            cases o with
            | true =>
              go_wp2_with fail
              go_roundg (mu L.length s.length back' fr' (i + 1))
              case measure => go_light; have h1 := HMU.out; have h2 := mu_hit (n := L.length) (back := back') (fr := fr') hi; omega
              case rel =>
                go_light
                exact ⟨p' + 1, i + 1, back', fr', rfl, int_cast (by omega), rfl, rfl, int_cast (by omega), HHO.out HO.out.symm, hB4⟩
            | false =>
              have HMISS : Hid (p' < L.length → (L.getD p' .star).isStar = false ∧ (L.getD p' .star).one (s.getD i 0) = false) := hid (by rw [← HX.out]; exact HHM.out HO.out.symm)
              clear HHM HHO HO HX
              cases hbk : back' with
              | none =>
                subst hbk
                have HLOST := hid (Way.lost HW.out hi HMISS.out)
                rw [show backI none = -1 from rfl]
                clear HMISS HMU
                go_wp2_with fail
                go_loopg [6] (L.length - p') (fun m v6 wx => ∃ q : Nat, m = L.length - q ∧ v6 = .int .i64 q ∧ q ≤ L.length ∧ matchP L s = false ∧ w3 = wx)
                case atStart => exact ⟨p', rfl, rfl, hpl, HLOST.out, rfl⟩
                case round =>
                  obtain ⟨q, hm, rfl, hql, hq, hwe⟩ := hrel
                  subst hwe
                  have HQM := hid hm
                  have HQ := hid hq
                  clear hm hq
                  by_cases hqlt : q < L.length
                  · obtain ⟨A3, c3, he, hcell⟩ := PcsAt.form (HP.out.below hB4)
                    injection he with he1 _ he2
                    subst he1 he2
                    obtain ⟨b, off, f, hA, hb, a1, a2, a3, hpt⟩ := hcell q hqlt
                    obtain ⟨rfl, rfl⟩ : b = bA ∧ off = offA := by injection hA with h; injection h with h1 h2; exact ⟨h1.symm, h2.symm⟩
                    have hqI : (q : Int) < (L.length : Int) := by omega
                    clear hcell a2 a3 hpt
                    cases hst : (L.getD q .star).isStar with
                    | true =>
                      rw [hst] at a1
                      have HST := hid hst
                      clear hst
                      go_wp2_with fail
                      go_roundg (L.length - (q + 1))
                      case measure => go_light; have := HQM.out; omega
                      case rel =>
                        go_light
                        exact ⟨q + 1, rfl, int_cast (by omega), by omega, HQ.out, rfl⟩
                    | false =>
                      rw [hst] at a1
                      have HST := hid hst
                      clear hst
                      go_wp2_with fail
                      try rw [Exit.noGoto_ret]
                      go_ret
                      exact ⟨ret_bool (by rw [HQ.out]), hB1.trans (hB4.mono hB1.size)⟩
                  · obtain rfl : q = L.length := by omega
                    clear hqlt
                    go_wp2_with fail
                    try rw [Exit.noGoto_ret]
                    go_ret
                    exact ⟨ret_bool (by rw [HQ.out]), hB1.trans (hB4.mono hB1.size)⟩
              | some bk =>
                subst hbk
                have HW2 := hid (Way.miss HW.out hi HMISS.out)
                have hfi : fr' ≤ i := by have := (HW.out.run bk rfl).2.1; omega
                have HMM := hid (mu_miss (n := L.length) (bk := bk) hi hfi)
                have hiF : fr' < 1000000000 := by omega
                rw [show backI (some bk) = (bk : Int) from rfl]
                clear HMISS HW hfi
                go_wp2_with fail
                go_roundg (mu L.length s.length (some bk) (fr' + 1) (fr' + 1))
                case measure => go_light; have h1 := HMU.out; have h2 := HMM.out; omega
                case rel =>
                  go_light
                  exact ⟨bk, fr' + 1, some bk, fr' + 1, rfl, rfl, rfl, int_cast (by omega), int_cast (by omega), HW2.out, hB4⟩
        · obtain rfl : p' = L.length := by omega
          have HMISS : Hid (L.length < L.length → (L.getD L.length .star).isStar = false ∧ (L.getD L.length .star).one (s.getD i 0) = false) := hid (fun h => absurd h (by omega))
          clear hp
          cases hbk : back' with
          | none =>
            subst hbk
            have HLOST := hid (Way.lost HW.out hi HMISS.out)
            rw [show backI none = -1 from rfl]
            clear HMISS HMU
            (go_wp2_with fail; go_quiet (fail); go_wp2_with fail)
            go_loopg [6] (L.length - L.length) (fun m v6 wx => ∃ q : Nat, m = L.length - q ∧ v6 = .int .i64 q ∧ q ≤ L.length ∧ matchP L s = false ∧ wr.drewN nq = wx)
            case atStart => exact ⟨L.length, rfl, rfl, hpl, HLOST.out, rfl⟩
            case round =>
              obtain ⟨q, hm, rfl, hql, hq, hwe⟩ := hrel
              subst hwe
              have HQM := hid hm
              have HQ := hid hq
              clear hm hq
              by_cases hqlt : q < L.length
              · obtain ⟨A3, c3, he, hcell⟩ := PcsAt.form (HP.out.below (Below.drewN' hB nq))
                injection he with he1 _ he2
                subst he1 he2
                obtain ⟨b, off, f, hA, hb, a1, a2, a3, hpt⟩ := hcell q hqlt
                subst hA
                have hqI : (q : Int) < (L.length : Int) := by omega
                clear hcell a2 a3 hpt
                cases hst : (L.getD q .star).isStar with
                | true =>
                  rw [hst] at a1
                  have HST := hid hst
                  clear hst
                  go_wp2_with fail
                  go_roundg (L.length - (q + 1))
                  case measure => go_light; have := HQM.out; omega
                  case rel =>
                    go_light
                    exact ⟨q + 1, rfl, int_cast (by omega), by omega, HQ.out, rfl⟩
                | false =>
                  rw [hst] at a1
                  have HST := hid hst
                  clear hst
                  go_wp2_with fail
                  try rw [Exit.noGoto_ret]
                  go_ret
                  exact ⟨ret_bool (by rw [HQ.out]), hB1.trans ((Below.drewN' hB nq).mono hB1.size)⟩
              · obtain rfl : q = L.length := by omega
                clear hqlt
                go_wp2_with fail
                try rw [Exit.noGoto_ret]
                go_ret
                exact ⟨ret_bool (by rw [HQ.out]), hB1.trans ((Below.drewN' hB nq).mono hB1.size)⟩
          | some bk =>
            subst hbk
            have HW2 := hid (Way.miss HW.out hi HMISS.out)
            have hfi : fr' ≤ i := by have := (HW.out.run bk rfl).2.1; omega
            have HMM := hid (mu_miss (n := L.length) (bk := bk) hi hfi)
            have hiF : fr' < 1000000000 := by omega
            rw [show backI (some bk) = (bk : Int) from rfl]
            clear HMISS HW hfi
            (go_wp2_with fail; go_quiet (fail); go_wp2_with fail)
            go_roundg (mu L.length s.length (some bk) (fr' + 1) (fr' + 1))
            case measure => go_light; have h1 := HMU.out; have h2 := HMM.out; omega
            case rel =>
              go_light
              exact ⟨bk, fr' + 1, some bk, fr' + 1, rfl, rfl, rfl, int_cast (by omega), int_cast (by omega), HW2.out, (Below.drewN' hB nq)⟩
    · obtain rfl : i = s.length := by have := hw.hi; omega
      have hd := hw.done
      have HPL := hid hw.ha
      have HD := hid hd
      clear hw hd hi HM
      go_wp2_with fail
      go_loopg [6] (L.length - p) (fun m v6 wx => ∃ q : Nat, m = L.length - q ∧ v6 = .int .i64 q ∧ q ≤ L.length ∧ matchP L s = matchP (L.drop q) [] ∧ wr = wx)
      case atStart => exact ⟨p, rfl, rfl, HPL.out, HD.out, rfl⟩
      case round =>
        obtain ⟨q, hm, rfl, hql, hq, hwe⟩ := hrel
        subst hwe
        have HQM := hid hm
        have HQ := hid hq
        clear hm hq
        by_cases hqlt : q < L.length
        · obtain ⟨A3, c3, he, hcell⟩ := PcsAt.form (HP.out.below hB)
          injection he with he1 _ he2
          subst he1 he2
          obtain ⟨b, off, f, hA, hb, a1, a2, a3, hpt⟩ := hcell q hqlt
          subst hA
          have hqI : (q : Int) < (L.length : Int) := by omega
          clear hcell a2 a3 hpt
          cases hst : (L.getD q .star).isStar with
          | true =>
            rw [hst] at a1
            have HST := hid hst
            clear hst
            go_wp2_with fail
            go_roundg (L.length - (q + 1))
            case measure => go_light; have := HQM.out; omega
            case rel =>
              go_light
              exact ⟨q + 1, rfl, int_cast (by omega), by omega, by rw [HQ.out]; exact matchP_skip hqlt HST.out, rfl⟩
          | false =>
            rw [hst] at a1
            have HST := hid hst
            clear hst
            go_wp2_with fail
            try rw [Exit.noGoto_ret]
            go_ret
            exact ⟨ret_bool (by rw [HQ.out, matchP_stand hqlt HST.out]; simp; omega), hB1.trans (hB.mono hB1.size)⟩
        · obtain rfl : q = L.length := by omega
          clear hqlt
          go_wp2_with fail
          try rw [Exit.noGoto_ret]
          go_ret
          exact ⟨ret_bool (by rw [HQ.out, matchP_over (Nat.le_refl _)]), hB1.trans (hB.mono hB1.size)⟩
end Go.Proofs.YtklihdlfbhgpeaaDoor
