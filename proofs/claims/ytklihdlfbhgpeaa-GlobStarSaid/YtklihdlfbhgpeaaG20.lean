/-
  The walk of GlobPlain.
-/
import Derived.Test.YtklihdlfbhgpeaaG18
namespace Go.Proofs.Ytklihdlfbhgpeaa
open Go.RowKit
set_option linter.unusedVariables false

theorem chs_quoted (t : List UInt8) : chs [⟨t, true, false⟩] = t.map (fun b => (b, true)) := by simp [chs, chr]
theorem pieces_ofQuoted (t : List UInt8) : pieces (chs [⟨t, true, false⟩]) = t.map .lit := by
  rw [chs_quoted]
  have := pieces_quoted t []
  rwa [List.append_nil, pieces_nil, List.append_nil] at this
theorem match_ofQuoted (t s : List UInt8) : matchP (pieces (chs [⟨t, true, false⟩])) s = decide (s = t) := by rw [pieces_ofQuoted, matchP_lits]
theorem magic_ofQuoted (t : List UInt8) : magicL (chs [⟨t, true, false⟩]) = false := by
  rw [← odd_magic, pieces_ofQuoted]
  simp [Pc.odd]
theorem match_ofPlain (rs : List RunV) (h : magicL (chs rs) = false) (s : List UInt8) : matchP (pieces (chs rs)) s = decide (s = plainL rs) := by
  rw [match_plain _ _ (by rw [odd_magic]; exact h), plain_chs]

set_option maxRecDepth 100000 in
set_option maxHeartbeats 2000000 in
theorem globPlain_list (A : Option Addr) (c : Nat) (rs : List RunV) (hn : rs.length ≤ maxLen) (l : List UInt8) (w : World) (hr : Rns w A rs) :
    Calls Try.prog 7 #[.slice A rs.length c, .string ⟨l.toArray⟩] w fun e w' => e = .returned (.bool true) ∧ Below w.heap.size w w' := by
  have HR := hid hr
  obtain ⟨m, hm⟩ : ∃ m, m = min l.length 20 := ⟨_, rfl⟩
  have hmin : min (l.length : Int) 20 = (m : Int) := by omega
  have hml : (m : Int) ≤ l.length := by omega
  have hm0 : (0 : Int) ≤ (m : Int) := by omega
  have hsl : (l.take m).length ≤ 1000000 := by rw [List.length_take]; omega
  clear hr hm
  go_enter Try.func7, Try.ntmps7
  go_wp2_with fail
  refine (works_any _).mono ?_
  rintro e w1 ⟨rfl, hb1⟩
  go_wp2_with fail
  refine (cut_any A c rs hn w1 (HR.out.below hb1)).mono ?_
  rintro e w2 ⟨⟨B, d, rfl, hp⟩, hb2⟩
  have hB2 := hb1.trans (hb2.mono hb1.size)
  have HP := hid hp
  have hpl : (plainL (cutL rs)).length ≤ 1000000 := by
    have h1 := hp.all
    rw [← plain_chs, List.length_map]
    exact h1
  clear hp hb1 hb2
  go_wp2_with fail
  refine (plain_any B d (cutL rs) _ HP.out).mono ?_
  rintro e w3 ⟨rfl, hb3⟩
  have hB3 := hB2.trans (hb3.mono hB2.size)
  have HP3 := hid (HP.out.below hb3)
  have hmp := match_ofPlain (cutL rs)
  obtain ⟨t, ht⟩ : ∃ t, t = plainL (cutL rs) := ⟨_, rfl⟩
  rw [← ht] at hmp hpl ⊢
  have HMP := hid hmp
  clear hb3 hB2 ht hmp HP
  -- the text's own pattern
  go_wp2_with fail
  refine (quoted_any t hpl _).mono ?_
  rintro e w4 ⟨B4, rfl, hp4, hb4⟩
  have hB4 := hB3.trans (hb4.mono hB3.size)
  go_wp2_with fail
  refine (match_any' (some ⟨B4, 0, none⟩) 1 [⟨t, true, false⟩] t hpl _ hp4).mono ?_
  rintro e w5 ⟨rfl, hb5⟩
  have hB5 := hB4.trans (hb5.mono hB4.size)
  rw [match_ofQuoted, decide_eq_true rfl]
  have hk5 := hb4.trans (hb5.mono hb4.size)
  clear hp4 hb4 hb5
  go_wp2_with fail
  refine (quoted_any t hpl _).mono ?_
  rintro e w6 ⟨B6, rfl, hp6, hb6⟩
  have hk6 := hk5.trans (hb6.mono hk5.size)
  go_wp2_with fail
  refine (magic_any (some ⟨B6, 0, none⟩) 1 [⟨t, true, false⟩] _ hp6).mono ?_
  rintro e w7 ⟨rfl, hb7⟩
  have hk7 := hk6.trans (hb7.mono hk6.size)
  rw [magic_ofQuoted]
  clear hp6 hb6 hb7 hk5 hk6
  go_wp2_with fail
  refine (quoted_any t hpl _).mono ?_
  rintro e w8 ⟨B8, rfl, hp8, hb8⟩
  have hk8 := hk7.trans (hb8.mono hk7.size)
  have HP8 := hid (match_any' (some ⟨B8, 0, none⟩) 1 [⟨t, true, false⟩] (l.take m) hsl _ hp8)
  clear hp8 hb8 hk7
  go_wp2_with fail
  refine HP8.out.mono ?_
  rintro e w9 ⟨rfl, hb9⟩
  have hk9 := hk8.trans (hb9.mono hk8.size)
  rw [match_ofQuoted]
  clear hb9 hk8 HP8
  obtain ⟨s, hs⟩ : ∃ s, s = l.take m := ⟨_, rfl⟩
  rw [← hs] at hsl ⊢
  clear hs hmin hml hm0
  by_cases hst : s = t
  · subst hst
    rw [decide_eq_true rfl]
    go_wp2_with fail
    refine (magic_any B d (cutL rs) _ (HP3.out.below hk9)).mono ?_
    rintro e w10 ⟨rfl, hb10⟩
    have hk10 := hk9.trans (hb10.mono hk9.size)
    clear hb10
    cases hg : magicL (chs (cutL rs)) with
    | true =>
      clear hg
      go_wp2_with fail
      go_ret
      exact ⟨rfl, hB3.trans (hk10.mono hB3.size)⟩
    | false =>
      have HG := hid (HMP.out hg)
      have h1 := match_any' B d (cutL rs) s hpl _ (HP3.out.below hk10)
      rw [HG.out s, decide_eq_true rfl] at h1
      have H2 := hid (fun W hW => match_any' B d (cutL rs) s hsl W (HP3.out.below hW))
      clear hg
      go_wp2_with fail
      refine h1.mono ?_
      rintro e w11 ⟨rfl, hb11⟩
      have hk11 := hk10.trans (hb11.mono hk10.size)
      clear h1 hb11
      go_wp2_with fail
      refine (H2.out _ hk11).mono ?_
      rintro e w12 ⟨rfl, hb12⟩
      have hk12 := hk11.trans (hb12.mono hk11.size)
      rw [HG.out s, decide_eq_true rfl]
      clear hb12 H2
      go_wp2_with fail
      go_ret
      exact ⟨rfl, hB3.trans (hk12.mono hB3.size)⟩
  · rw [decide_eq_false hst]
    have hse : (s == t) = false := by simpa using hst
    have HST := hid hst
    clear hst
    go_wp2_with fail
    refine (magic_any B d (cutL rs) _ (HP3.out.below hk9)).mono ?_
    rintro e w10 ⟨rfl, hb10⟩
    have hk10 := hk9.trans (hb10.mono hk9.size)
    clear hb10
    cases hg : magicL (chs (cutL rs)) with
    | true =>
      clear hg
      go_wp2_with fail
      go_ret
      exact ⟨rfl, hB3.trans (hk10.mono hB3.size)⟩
    | false =>
      have HG := hid (HMP.out hg)
      have h1 := match_any' B d (cutL rs) t hpl _ (HP3.out.below hk10)
      rw [HG.out t, decide_eq_true rfl] at h1
      have H2 := hid (fun W hW => match_any' B d (cutL rs) s hsl W (HP3.out.below hW))
      clear hg
      go_wp2_with fail
      refine h1.mono ?_
      rintro e w11 ⟨rfl, hb11⟩
      have hk11 := hk10.trans (hb11.mono hk10.size)
      clear h1 hb11
      go_wp2_with fail
      refine (H2.out _ hk11).mono ?_
      rintro e w12 ⟨rfl, hb12⟩
      have hk12 := hk11.trans (hb12.mono hk11.size)
      rw [HG.out s, decide_eq_false HST.out]
      clear hb12 H2
      go_wp2_with fail
      go_ret
      exact ⟨rfl, hB3.trans (hk12.mono hB3.size)⟩
theorem globPlain_walk (A : Option Addr) (c : Nat) (rs : List RunV) (hn : rs.length ≤ maxLen) (s : ByteArray) (w : World) (hr : Rns w A rs) :
    Calls Try.prog 7 #[.slice A rs.length c, .string s] w fun e w' => e = .returned (.bool true) ∧ Below w.heap.size w w' := by
  rw [bytes_list s]
  exact globPlain_list A c rs hn _ w hr
end Go.Proofs.Ytklihdlfbhgpeaa
