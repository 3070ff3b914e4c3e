/-
  The walk of assign.
-/
import Derived.Test.YtklihdlfbhgpeaaDoorE13
namespace Go.Proofs.YtklihdlfbhgpeaaDoor
open Go.RowKit
set_option linter.unusedVariables false

theorem chs_wtR : ∀ rs : List RunV, (chs rs).length ≤ wtR rs
  | [] => by simp [chs]
  | r :: rs => by
    have := chs_wtR rs
    have e : (chr r).length = r.t.length := by simp [chr]
    simp only [chs, wtR, List.flatMap_cons, List.length_append, List.map_cons, List.sum_cons, e] at this ⊢
    omega
theorem each_wtR (rs : List RunV) : ∀ r ∈ rs, r.t.length ≤ wtR rs := by
  induction rs with
  | nil => intro r h; simp at h
  | cons a l ih =>
    intro r h
    simp only [wtR, List.map_cons, List.sum_cons] at ih ⊢
    rcases List.mem_cons.1 h with rfl | h
    · omega
    · have := ih r h; omega
theorem plainL_eq (rs : List RunV) : plainL rs = plainR rs := by
  rfl
theorem pat_flat {w : World} {A : Option Addr} {F : Flds} (h : Rns w A (flatR F)) (hw : wtF F ≤ 100000000) : Pat w A (flatR F) := by
  obtain ⟨h1, h2, h3⟩ := flat_wtF F
  exact ⟨h, by omega, fun r hr => by have := each_wtR _ r hr; omega, by have := chs_wtR (flatR F); omega⟩
set_option maxRecDepth 100000 in
set_option maxHeartbeats 4000000 in
theorem assign_any [Inhabited LowT] (n : Nat) (hE : ExpOk n) (S T : Nat → Prop) (Eb fb : Nat) (σ : EnvV) (F : Flds) (deep : Int) (p : PartV) (A : Option Addr) (c : Nat) (B : Option Addr) (x : Asked) (XA : Option Addr) (xc : Nat) (w : World) (h : St w S T Eb fb σ F deep) (hb : PD n p σ F) (hp : PAt n w A p.word)
    (hd : deep + 1 = 21 - (n : Int)) (hd0 : 0 ≤ deep) (hd1 : deep ≤ 20) :
    Calls Tryd.prog 30 #[.pointer (some ⟨fb, 0, none⟩), xv p A c B x XA xc] w (DoPost S T Eb fb deep F w (doV (evalW n) p x σ .assign)) := by
  have hlen := hb.len
  have hB1 : Below w.heap.size w (w.alloc (.cells (xcell p A c B x XA xc) 75)) := (Below.refl _ _).alloc (Nat.le_refl _) _
  have hAt : At (w.alloc (.cells (xcell p A c B x XA xc) 75)) w.heap.size 75 (xcell p A c B x XA xc) := heap_alloc_new w _
  change Calls _ _ _ _ (DoPost S T Eb fb deep F w (assignV (evalW n) p x σ))
  have H := hid h
  cases hm : x.missing with
  | false =>
    rw [show assignV (evalW n) p x σ = tellV p.q x.value σ by unfold assignV; rw [hm]; rfl]
    dsimp only [xv]
    rw [hm]
    go_enter Tryd.func30, Tryd.ntmps30
    go_wp2_with fail
    rw [← hm]
    refine (tell_any T fb Eb F deep p A c B x XA xc _ (H.out.below hB1).fld hlen.1 hlen.2).mono ?_
    rintro e w3 ⟨rfl, hF, hK⟩
    go_wp2_with fail
    go_ret
    exact ⟨rfl, _, (H.out.below hB1).kwF hK hF, fun _ => rfl, (Kw.below hB1).trans (KwA.f hK)⟩
  | true =>
    have hbd := evalW_bd n p.word σ hb.ok
    have hwt := hb.wt
    have hsub := hb.sub
    have hsn := hb.seen
    have hvn := hb.vars
    have hsn2 := hbd.seen
    have hvn2 := hbd.vars
    have hwt2 := hbd.wt
    have hav : assignV (evalW n) p x σ = if (evalW n p.word σ).e = 0 then
        (if isNameV p.text = true then (if 90 < (plainR (flatR (evalW n p.word σ).F)).length then ⟨10, [], setV p.text (plainR (flatR (evalW n p.word σ).F)) (evalW n p.word σ).s⟩ else tellV p.q (plainR (flatR (evalW n p.word σ).F)) (setV p.text (plainR (flatR (evalW n p.word σ).F)) (evalW n p.word σ).s)) else ⟨2, [], (evalW n p.word σ).s⟩)
        else ⟨(evalW n p.word σ).e, [], (evalW n p.word σ).s⟩ := by unfold assignV; rw [hm]; rfl
    obtain ⟨R, hR⟩ : ∃ R, R = assignV (evalW n) p x σ := ⟨_, rfl⟩
    rw [← hR]
    rw [hav] at hR
    have HR := hid hR
    clear hR hav
    dsimp only [xv]
    rw [hm]
    dsimp only [xcell] at hB1 hAt
    rw [hm] at hB1 hAt
    go_enter Tryd.func30, Tryd.ntmps30
    go_wp2_with fail
    obtain ⟨W, hW⟩ : ∃ W, W = w.alloc (.cells #[.int .i64 p.kind, .string ⟨p.text.toArray⟩, .string ⟨p.op.toArray⟩, .bool p.q, .slice A p.word.length c, .pointer B, .string ⟨x.value.toArray⟩, .bool x.set, .slice XA x.args.length xc, .bool true] 75) := ⟨_, rfl⟩
    rw [← hW] at hB1 hAt ⊢
    clear hW
    have HB1 := hid hB1
    have HAT := hid hAt
    refine (word_any n hE S T Eb fb σ F deep p A c B W (H.out.below hB1) hb (hp.below hB1) hd hd0 hd1).mono ?_
    rintro e w3 ⟨v, rfl, hF3, hN3, hS3, hK3⟩
    have hA3 := hK3.at_ hAt (fun h => absurd h.2 (by decide))
    have hS4 := hS3.wider (TC_sub (H.out.below hB1).fld.up hK3.size) H.out.T0
    have hK4 : Kw (ME S) w w3 := (Kw.below hB1).trans hK3
    obtain ⟨y0, y1, y2, y3, y4, y5, y6, y7, y8, y9, hXl⟩ := cells10 hA3
    have HA3 := hid hA3
    have HS4 := hid hS4
    have HK4 := hid hK4
    have HBD := hid hbd
    have HF3 := hid hF3
    generalize evalW n p.word σ = o at *
    obtain ⟨oe, oF, os⟩ := o
    dsimp only at *
    clear hA3 hS4 hK4 hS3 hK3 hbd hAt hB1 hF3 hN3 hp h
    by_cases h0 : oe = 0
    · subst h0
      have hwF : wtF oF ≤ 100000000 := by omega
      obtain ⟨hf1, hf2, hf3⟩ := flat_wtF oF
      have hl1 := len_wtF oF
      go_wp2_with fail
      refine (isName_any p.text w3).mono ?_
      rintro e w4 ⟨rfl, hB4⟩
      have hA4 := HA3.out.below hB4 hXl
      have HS5 := hid (HS4.out.below hB4)
      have HK5 := hid (HK4.out.trans (Kw.below hB4))
      have HF4 := hid ((HF3.out trivial).kw (M := fun _ _ => False) (Kw.below hB4) fun _ _ _ _ h => h)
      clear y0 y1 y2 y3 y4 y5 y6 y7 y8 y9 hXl
      obtain ⟨y0, y1, y2, y3, y4, y5, y6, y7, y8, y9, hXl⟩ := cells10 hA4
      have HA4 := hid hA4
      clear hA4 hB4
      cases hnm : isNameV p.text with
      | false =>
        go_wp2_with fail
        go_ret
        rw [HR.out, if_pos trivial, if_neg (by rw [hnm]; simp)]
        exact ⟨rfl, F, HS5.out, fun h => absurd h (by simp), KwA.e HK5.out⟩
      | true =>
        go_wp2_with fail
        refine (flat_any _ oF v w4 HF4.out (by omega) (by omega)).mono ?_
        rintro e w5 ⟨⟨A5, c5, rfl, hR5⟩, hB5⟩
        have HR5 := hid (pat_flat hR5.rc hwF)
        have HB5 := hid hB5
        clear hR5 hB5
        go_wp2_with fail
        refine (plain_any A5 c5 (flatR oF) w5 HR5.out).mono ?_
        rintro e w6 ⟨rfl, hB6⟩
        rw [plainL_eq]
        have hB7 : Below w4.heap.size w4 w6 := HB5.out.trans (hB6.mono HB5.out.size)
        have hA6 := HA4.out.below hB7 hXl
        have HS6 := hid (HS5.out.below hB7)
        have HK6 := hid (HK5.out.trans (Kw.below hB7))
        clear y0 y1 y2 y3 y4 y5 y6 y7 y8 y9 hXl hB6 hB7
        obtain ⟨y0, y1, y2, y3, y4, y5, y6, y7, y8, y9, hXl⟩ := cells10 hA6
        have z6 := hA6.frozen 6
        have HA6 := hid hA6
        clear hA6
        generalize plainR (flatR oF) = val at *
        go_wp2_with fail
        obtain ⟨W7, hW7⟩ : ∃ W7, W7 = w6.setCell ⟨w.heap.size, 6, none⟩ (.string ⟨val.toArray⟩) := ⟨_, rfl⟩
        have hpos : 0 < w.heap.size := by have := H.out.cells.choose_spec.2.2.2; omega
        have HS7 : Hid (St W7 S T Eb fb os F deep) := by rw [hW7]; exact hid (HS6.out.set75 HA6.out hpos _ _)
        have HK7 : Hid (Kw (ME S) w W7) := by rw [hW7]; exact hid (HK6.out.setNew (Nat.le_refl _) _ _)
        have HA7 : Hid (At W7 w.heap.size 75 #[.int .i64 p.kind, .string ⟨p.text.toArray⟩, .string ⟨p.op.toArray⟩, .bool p.q, .slice A p.word.length c, .pointer B, .string ⟨val.toArray⟩, .bool x.set, .slice XA x.args.length xc, .bool true]) := by
          rw [hW7]; exact hid (HA6.out.set 6 _)
        rw [← hW7]
        clear hW7 y0 y1 y2 y3 y4 y5 y6 y7 y8 y9 hXl z6
        obtain ⟨y0, y1, y2, y3, y4, y5, y6, y7, y8, y9, hXl⟩ := cells10 HA7.out
        obtain ⟨v', b0, b1, b2, b3⟩ := HS7.out.cells
        have m1 := mSet (some ⟨Eb, 0, none⟩)
        have m2 := enter102
        have hcost : p.text.length ≤ 1000000000 := by omega
        by_cases hlong : 90 < val.length
        · go_region_with (go_at_call 102; refine (set_any' S Eb os p.text val _ (HS7.out.drewN 1).env (by omega) (by omega) hcost (by omega)).mono ?_; rintro e w8 ⟨rfl, hE8, hK8⟩; rw [if_pos hlong])
          all_goals
            have hA8 := (hK8.at_ (HA7.out.drew) (fun h => absurd h.2 (by decide)))
            have HS8 := hid ((HS7.out.drewN 1).kwE hK8 hE8)
            have HK8 := hid (HK7.out.trans ((Kw.drewN (Kw.refl _ _) 1).trans hK8))
            clear y0 y1 y2 y3 y4 y5 y6 y7 y8 y9 hXl hE8 hK8 b0 b1 b2 b3
            obtain ⟨y0, y1, y2, y3, y4, y5, y6, y7, y8, y9, hXl⟩ := cells10 hA8
            clear hA8
            go_wp2_with fail
            go_ret
            rw [HR.out, if_pos trivial, if_pos hnm, if_pos hlong]
            exact ⟨rfl, F, HS8.out, fun h => absurd h (by simp), KwA.e HK8.out⟩
        · go_region_with (go_at_call 102; refine (set_any' S Eb os p.text val _ (HS7.out.drewN 1).env (by omega) (by omega) hcost (by omega)).mono ?_; rintro e w8 ⟨rfl, hE8, hK8⟩; rw [if_neg hlong])
          all_goals
            have hA8 := (hK8.at_ (HA7.out.drew) (fun h => absurd h.2 (by decide)))
            have HS8 := hid ((HS7.out.drewN 1).kwE hK8 hE8)
            have HK8 := hid (HK7.out.trans ((Kw.drewN (Kw.refl _ _) 1).trans hK8))
            clear y0 y1 y2 y3 y4 y5 y6 y7 y8 y9 hXl hE8 hK8 b0 b1 b2 b3
            obtain ⟨y0, y1, y2, y3, y4, y5, y6, y7, y8, y9, hXl⟩ := cells10 hA8
            clear hA8
            go_wp2_with fail
            refine (tell_any T fb Eb F deep p A c B ⟨val, x.set, x.args, true⟩ XA xc w8 HS8.out.fld hlen.1 hlen.2).mono ?_
            rintro e w9 ⟨rfl, hF, hK⟩
            go_wp2_with fail
            go_ret
            rw [HR.out, if_pos trivial, if_pos hnm, if_neg hlong]
            exact ⟨rfl, _, HS8.out.kwF hK hF, fun _ => rfl, (KwA.e HK8.out).trans (KwA.f hK)⟩
    · go_wp2_with fail
      go_ret
      rw [HR.out, if_neg h0]
      exact ⟨rfl, F, HS4.out, fun h => absurd h h0, KwA.e HK4.out⟩
end Go.Proofs.YtklihdlfbhgpeaaDoor
