/-
  The walk of plain.
-/
import Derived.Test.YtklihdlfbhgpeaaDoorE11
namespace Go.Proofs.YtklihdlfbhgpeaaDoor
open Go.RowKit
set_option linter.unusedVariables false

theorem rows_own {w : World} {base : Nat} {v : Value} {G : Flds} {rows : List Value} {P : Nat → Prop} (h : w.ownsRow base 38 1 v G.length rows) (hr : RowsAt w P rows G) (hP : ∀ b, base ≤ b → P b) : FldOut w P v G := by
  obtain ⟨A, c, rfl, h1, h2⟩ := own_form h
  exact ⟨A, c, rows, rfl, TR.of_own h, fun _ b off e => hP b (h.lt b (h2 b off e)).1, hr⟩
theorem wt_args' (q : Bool) (l : List Str) : ((l.map fun s => [runOf q s]).map List.length).sum = l.length := by
  induction l with
  | nil => rfl
  | cons a r ih => simp only [List.map_cons, List.sum_cons, List.length_cons, ih, List.length_nil]; omega
set_option maxRecDepth 100000 in
set_option maxHeartbeats 4000000 in
theorem plain_any' [Inhabited LowT] (n : Nat) (S T : Nat → Prop) (Eb fb : Nat) (σ : EnvV) (F : Flds) (deep : Int) (p : PartV) (A : Option Addr) (c : Nat) (B : Option Addr) (x : Asked) (XA : Option Addr) (xc : Nat) (w : World) (h : St w S T Eb fb σ F deep) (hb : PD n p σ F)
    (hxa : x.args.length ≤ 12) (hX : TR w 9 1 XA x.args.length (txv x.args)) :
    Calls Tryd.prog 26 #[.pointer (some ⟨fb, 0, none⟩), xv p A c B x XA xc] w (DoPost S T Eb fb deep F w (plainV p.text p.q x σ)) := by
  have hlen := hb.len
  have hB1 : Below w.heap.size w (w.alloc (.cells (xcell p A c B x XA xc) 75)) := (Below.refl _ _).alloc (Nat.le_refl _) _
  have hAt : At (w.alloc (.cells (xcell p A c B x XA xc) 75)) w.heap.size 75 (xcell p A c B x XA xc) := heap_alloc_new w _
  have H := hid h
  obtain ⟨j0, hj, hz0, hz1, hz2⟩ := info_parts infoF
  have HX := hid hX
  have HB := hid hb
  clear h hb hX
  obtain ⟨o, ho⟩ : ∃ o, o = plainV p.text p.q x σ := ⟨_, rfl⟩
  rw [← ho]
  have HO := hid ho
  clear ho
  obtain ⟨W, hW⟩ : ∃ W, W = w.alloc (.cells (xcell p A c B x XA xc) 75) := ⟨_, rfl⟩
  dsimp only [xv]
  go_enter Tryd.func26, Tryd.ntmps26
  go_upto_region 1 with fail
  rw [← hW] at hB1 hAt ⊢
  clear hW
  obtain ⟨y0, y1, y2, y3, y4, y5, y6, y7, y8, y9, hXl⟩ := cells10 hAt
  have HAT := hid hAt
  have HB1 := hid hB1
  clear hAt hB1
  go_cut [23] (fun s23 wx => s23 = .bool (!isAll p.text || p.text == [42] && p.q) ∧ W = wx)
  case first =>
    go_wp2_with fail
    refine (all_any p.text _).mono ?_
    rintro e w2 ⟨rfl, hw2⟩
    rw [hw2]
    clear hw2
    cases hall : isAll p.text with
    | false =>
      go_wp2_with fail
      go_meet
      exact ⟨by rw [hall]; rfl, rfl⟩
    | true =>
      cases hst : (p.text == [42]) with
      | false =>
        go_wp2_with fail
        go_meet
        exact ⟨by rw [hall, hst]; rfl, rfl⟩
      | true =>
        go_wp2_with fail
        go_meet
        exact ⟨by rw [hall, hst]; rfl, rfl⟩
  case rest =>
    obtain ⟨rfl, rfl⟩ := hcut
    cases hc : (!isAll p.text || p.text == [42] && p.q) with
    | true =>
      go_wp2_with fail
      refine (tell_any T fb Eb F deep p A c B x XA xc _ (H.out.below HB1.out).fld hlen.1 hlen.2).mono ?_
      rintro e w3 ⟨rfl, hF, hK⟩
      go_wp2_with fail
      go_ret
      rw [HO.out, show plainV p.text p.q x σ = tellV p.q x.value σ by unfold plainV; rw [if_pos hc]]
      exact ⟨rfl, _, (H.out.below HB1.out).kwF hK hF, fun _ => rfl, (Kw.below HB1.out).trans (KwA.f hK)⟩
    | false =>
      go_wp2_with fail
      have hxI : (x.args.length : Int) ≤ 12 := by omega
      go_loopg [5, 30] x.args.length (fun m v5 v30 wr => ∃ i : Nat, m + i = x.args.length ∧ v30 = .int .i64 i ∧ ∃ rows, wr.ownsRow w.heap.size 38 1 v5 i rows ∧ RowsAt wr (fun b => w.heap.size ≤ b) rows ((x.args.take i).map fun s => [runOf p.q s]) ∧ Below w.heap.size w wr ∧ At wr w.heap.size 75 (xcell p A c B x XA xc))
      case atStart => exact ⟨0, rfl, rfl, [], World.ownsRow_nil _ _ _ _, trivial, HB1.out, HAT.out⟩
      case round =>
        obtain ⟨i, hm, rfl, rows, hO, hR, hB, hA⟩ := hrel
        have HM := hid hm
        have HR := hid (And.intro hO (And.intro hR (And.intro hB hA)))
        by_cases hi : i < x.args.length
        · obtain ⟨b, off, cur, fz, rfl, hb, hcur⟩ := (HX.out.below hB).2 (by omega)
          have x1 : wr.cell? ⟨b, off + i, none⟩ = some (.string ⟨(x.args.getD i []).toArray⟩) := (cell_of_row wr b (off + i) cur 9 fz hb).trans (hcur i _ (txv_get x.args i hi))
          have i1 : (i : Int) < (x.args.length : Int) := by omega
          clear y0 y1 y2 y3 y4 y5 y6 y7 y8 y9 hXl
          obtain ⟨y0, y1, y2, y3, y4, y5, y6, y7, y8, y9, hXl⟩ := cells10 hA
          clear hm hO hR hB hA hb hcur
          generalize hs : x.args.getD i [] = s at x1
          have HS := hid hs
          clear hs
          go_wp2_with fail
          refine (run_any p _ c B s wr).mono ?_
          rintro e w2 ⟨rfl, hB2⟩
          have HR2 := hid hB2
          clear hB2
          dsimp only [rv]
          obtain ⟨Wa, hWa⟩ : ∃ Wa, Wa = (w2.alloc (.cells #[.string ⟨(runOf p.q s).t.toArray⟩, .bool (runOf p.q s).q, .bool (runOf p.q s).s] 40)).alloc (.cells #[.slice (some ⟨w2.heap.size, 0, none⟩) 1 1] 38) := ⟨_, rfl⟩
          have hkA : Kw (fun k t => t = 38 ∧ w.heap.size ≤ k) wr Wa := by rw [hWa]; exact ((Kw.below HR2.out).alloc _).alloc _
          have hOA : Wa.ownsRow w.heap.size 38 1 u5 i rows := by rw [hWa]; exact own_alloc (own_alloc (own_kw HR.out.1 (Kw.below (M := fun _ _ => False) HR2.out) fun _ _ h => h) _) _
          have hnA : At Wa w2.heap.size 40 #[.string ⟨(runOf p.q s).t.toArray⟩, .bool (runOf p.q s).q, .bool (runOf p.q s).s] := by rw [hWa]; exact At.alloc (heap_alloc_new w2 _) _
          have hsA : Wa.heap.size = w2.heap.size + 2 := by rw [hWa]; simp
          have hs2 : w.heap.size ≤ w2.heap.size := Nat.le_trans HR.out.2.2.1.size HR2.out.size
          have hcn : ∀ (j : Nat) u, [Value.slice (some ⟨w2.heap.size, 0, none⟩) 1 1][j]? = some u → Wa.cell? ((⟨w2.heap.size + 1, 0, none⟩ : Addr).add j) = some u := by
            rw [hWa]
            have := cell_one_new (w2.alloc (.cells #[.string ⟨(runOf p.q s).t.toArray⟩, .bool (runOf p.q s).q, .bool (runOf p.q s).s] 40)) (.slice (some ⟨w2.heap.size, 0, none⟩) 1 1) 38
            simpa using this
          have HKA := hid hkA
          have HOA := hid hOA
          have HNA := hid hnA
          rw [hWa] at hOA hcn
          go_wp2_with (at_builtin; refine wpList_append_own_at _ rfl (.tmp 34) (.tmp 40) 32 rfl w.heap.size 38 j0 (.slice none 0 0) 1 24 Tryd.underlying32 hj hz0 hz1 hz2 rfl (by decide) u5 i rows rfl hOA ⟨w2.heap.size + 1, 0, none⟩ 1 1 [.slice (some ⟨w2.heap.size, 0, none⟩) 1 1] rfl rfl hcn (by simp [Value.oneCell']) (by unfold maxLen; omega) (by omega) (by simp; omega) ?_)
          intro v' w3 hown' hgrow hnil hat'
          rw [← hWa] at hgrow
          have k2 : Kw (fun k t => t = 38 ∧ w.heap.size ≤ k) Wa w3 := Kw.grown hgrow fun r hr => by
            obtain ⟨cur', hc'⟩ := own_cells HOA.out hr
            exact ⟨cur', 38, (0, 0), hc', rfl, (HOA.out.lt r hr).1⟩
          have k3 := HKA.out.trans k2
          have r3 : RowsAt w3 (fun b => w.heap.size ≤ b) (rows ++ [.slice (some ⟨w2.heap.size, 0, none⟩) 1 1]) ((x.args.take (i + 1)).map fun s => [runOf p.q s]) := by
            rw [getD_succ x.args [] hi, HS.out, List.map_append, List.map_cons, List.map_nil]
            have hra : RowAt w3 (fun b => w.heap.size ≤ b) (.slice (some ⟨w2.heap.size, 0, none⟩) 1 1) [runOf p.q s] := by
              refine ⟨some ⟨w2.heap.size, 0, none⟩, 1, rfl, ⟨rfl, fun _ => ⟨w2.heap.size, 0, _, (0, 0), rfl, k2.at_ HNA.out (fun h => absurd h.1 (by decide)), fun j u hj => ?_⟩⟩, fun _ b off e => ?_⟩
              · rw [Nat.zero_add, ← Array.getElem?_toList]; exact hj
              · injection e with e
                injection e with e _
                omega
            exact RowsAt.snoc hra (RowsAt.kw k3 (fun b _ h => absurd h.1 (by decide)) HR.out.2.1)
          have b3 : Below w.heap.size w w3 := HR.out.2.2.1.trans ((k3.toBelow HR.out.2.2.1.size fun k t h => h.2))
          have HFIN := hid (And.intro hown' (And.intro r3 (And.intro b3 (k3.at_ HR.out.2.2.2 (fun h => absurd h.1 (by decide))))))
          clear hown' hgrow hnil hat' k2 k3 r3 b3 hcn hOA hsA x1 hnA hkA y0 y1 y2 y3 y4 y5 y6 y7 y8 y9
          go_wp2_with fail
          go_roundg (gk - 1)
          case measure => go_light; have := HM.out; omega
          case rel =>
            go_light
            have := HM.out
            exact ⟨i + 1, by omega, int_cast (by omega), _, HFIN.out⟩
        · have := HM.out
          obtain rfl : i = x.args.length := by omega
          have hsz := hB.size
          have hgo : FldOut wr (fun b => w.heap.size ≤ b ∧ b < wr.heap.size) u5 (x.args.map fun s => [runOf p.q s]) := by
            rw [List.take_length] at hR
            refine (rows_own (base := w.heap.size) (P := fun b => w.heap.size ≤ b) (by rw [List.length_map]; exact hO) hR (fun b h => h)).mono fun b hb hh => ⟨hh, hb⟩
          have hfl := H.out.fld.kwLess (M := fun _ _ => False) (Kw.below hB) (fun _ _ _ _ _ h => h)
          have hst := H.out.below hB
          have HZ := hid (And.intro hgo (And.intro hfl (And.intro hst hB)))
          have hwt := wt_args' p.q x.args
          clear hm hO hR hB hA hgo hfl hst y0 y1 y2 y3 y4 y5 y6 y7 y8 y9
          have hwb := HB.out.wt
          have hl1 := len_wtF F
          have hl2 := last_wtF F
          go_wp2_with fail
          refine (join_any (TC T w.heap.size wr.heap.size) _ fb Eb F _ deep u5 wr HZ.out.2.1 HZ.out.1 (fun b hb => TC_not hb) (by rw [List.length_map]; omega) (by rw [hwt]; omega)).mono ?_
          rintro e w4 ⟨rfl, hF4, hK4⟩
          have HF4 := hid (And.intro hF4 hK4)
          clear hF4 hK4
          go_wp2_with fail
          go_ret
          have hsub := TC_sub (T := T) (a := w.heap.size) (b := wr.heap.size) H.out.fld.up hsz
          have hk := HF4.out.2.mono (N := MF T) fun k t _ hh => ⟨hsub k hh.1, hh.2⟩
          rw [HO.out, show plainV p.text p.q x σ = ⟨0, x.args.map fun s => [runOf p.q s], σ⟩ by unfold plainV; rw [if_neg (by rw [hc]; simp)]]
          exact ⟨rfl, _, HZ.out.2.2.1.kwF hk (HF4.out.1.wider hsub), fun _ => rfl, (Kw.below HZ.out.2.2.2).trans (KwA.f hk)⟩
end Go.Proofs.YtklihdlfbhgpeaaDoor
