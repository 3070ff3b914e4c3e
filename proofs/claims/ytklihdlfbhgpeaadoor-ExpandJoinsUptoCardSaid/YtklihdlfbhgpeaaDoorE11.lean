/-
  The walks of other, orElse, instead, must, size.
-/
import Derived.Test.YtklihdlfbhgpeaaDoorE10
namespace Go.Proofs.YtklihdlfbhgpeaaDoor
open Go.RowKit
set_option linter.unusedVariables false

/-- What a method of the parameter leaves. -/
def DoPost [Inhabited LowT] (S T : Nat → Prop) (Eb fb : Nat) (deep : Int) (F : Flds) (w : World) (o : Out) (e : Ending) (w' : World) : Prop :=
  e = .returned (.int .i64 o.e) ∧ ∃ F', St w' S T Eb fb o.s F' deep ∧ (o.e = 0 → F' = joinF F o.F) ∧ Kw (MA S T) w w'
theorem PD.len {n : Nat} {p : PartV} {σ : EnvV} {F : Flds} (h : PD n p σ F) : F.length ≤ 1000000000 ∧ (F.getLastD []).length ≤ 1000000000 := by
  have h1 := len_wtF F
  have h2 := last_wtF F
  have := h.wt
  exact ⟨by omega, by omega⟩
theorem TC_not {T : Nat → Prop} {a b k : Nat} (h : a ≤ k ∧ k < b) : ¬ TC T a b k := fun hh => hh.elim (fun h1 => by omega) (fun h1 => by omega)
theorem St.wider [Inhabited LowT] {w : World} {S T T' : Nat → Prop} {Eb fb : Nat} {σ : EnvV} {F : Flds} {deep : Int} (h : St w S T' Eb fb σ F deep) (ht : ∀ k, T' k → T k) (h0 : ∀ k, k ≤ lowN → ¬ T k) : St w S T Eb fb σ F deep := ⟨h.env, h.fld.wider ht, h.tab, h.S0, h0⟩
theorem TC_sub {T : Nat → Prop} {a b : Nat} (up : ∀ k, a ≤ k → T k) (hab : a ≤ b) : ∀ k, TC T a b k → T k := fun k h => h.elim (fun h => h.1) (fun h => up k (by omega))
abbrev xcell (p : PartV) (A : Option Addr) (c : Nat) (B : Option Addr) (x : Asked) (XA : Option Addr) (xc : Nat) : Array Value := #[.int .i64 p.kind, .string ⟨p.text.toArray⟩, .string ⟨p.op.toArray⟩, .bool p.q, .slice A p.word.length c, .pointer B, .string ⟨x.value.toArray⟩, .bool x.set, .slice XA x.args.length xc, .bool x.missing]
theorem sum_le_wtF (G : Flds) : G.length + (G.map List.length).sum ≤ wtF G := sum_wtF G
set_option maxRecDepth 100000 in
set_option maxHeartbeats 4000000 in
theorem other_any [Inhabited LowT] (n : Nat) (hE : ExpOk n) (S T : Nat → Prop) (Eb fb : Nat) (σ : EnvV) (F : Flds) (deep : Int) (p : PartV) (A : Option Addr) (c : Nat) (B : Option Addr) (x : Asked) (XA : Option Addr) (xc : Nat) (w : World) (h : St w S T Eb fb σ F deep) (hb : PD n p σ F) (hp : PAt n w A p.word)
    (hd : deep + 1 = 21 - (n : Int)) (hd0 : 0 ≤ deep) (hd1 : deep ≤ 20) :
    Calls Tryd.prog 40 #[.pointer (some ⟨fb, 0, none⟩), xv p A c B x XA xc] w (DoPost S T Eb fb deep F w (evalW n p.word σ)) := by
  have hlen := hb.len
  have hwt := hb.wt
  have hwb := (evalW_bd n p.word σ hb.ok).wt
  have hsub := hb.sub
  have H := hid h
  have HP := hid hp
  have HB := hid hb
  have HE := hid hE
  clear h hp hb hE
  dsimp only [xv]
  go_enter Tryd.func40, Tryd.ntmps40
  go_wp2_with fail
  obtain ⟨W, hW⟩ : ∃ W, W = w.alloc (.cells (xcell p A c B x XA xc) 75) := ⟨_, rfl⟩
  have hB1 : Below w.heap.size w W := by rw [hW]; exact (Below.refl _ _).alloc (Nat.le_refl _) _
  rw [← hW]
  clear hW
  have HB1 := hid hB1
  clear hB1
  refine (word_any n HE.out S T Eb fb σ F deep p A c B W (H.out.below HB1.out) HB.out (HP.out.below HB1.out) hd hd0 hd1).mono ?_
  rintro e w3 ⟨v, rfl, hF3, hN3, hS3, hK3⟩
  obtain ⟨G, hG⟩ : ∃ G, G = if (evalW n p.word σ).e = 0 then (evalW n p.word σ).F else [] := ⟨_, rfl⟩
  have hGF : FldOut w3 (fun b => W.heap.size ≤ b ∧ b < w3.heap.size) v G := by
    rw [hG]
    by_cases h0 : (evalW n p.word σ).e = 0
    · rw [if_pos h0]; exact hF3 h0
    · rw [if_neg h0, hN3 h0]; exact fldOut_nil _ _
  have hGw : wtF G ≤ costW n p.word + 1 := by
    rw [hG]
    split
    · exact hwb
    · simp [wtF]
  have hGs := sum_le_wtF G
  have HF := hid (And.intro hGF (And.intro hS3 hK3))
  have HG := hid hG
  have hl2 := last_wtF F
  have hl1 := len_wtF F
  clear hF3 hN3 hS3 hK3 hGF hG
  go_wp2_with fail
  refine (join_any (TC T W.heap.size w3.heap.size) _ fb Eb F G deep v w3 HF.out.2.1.fld HF.out.1 (fun b hb => TC_not hb) (by omega) (by omega)).mono ?_
  rintro e w4 ⟨rfl, hF4, hK4⟩
  have HF4 := hid (And.intro (HF.out.2.1.kwF hK4 hF4) hK4)
  clear hF4 hK4
  go_wp2_with fail
  go_ret
  have hsub2 := TC_sub (a := W.heap.size) (b := w3.heap.size) (H.out.below HB1.out).fld.up HF.out.2.2.size
  refine ⟨rfl, joinF F G, HF4.out.1.wider hsub2 H.out.T0, fun h0 => by rw [HG.out, if_pos h0], ((Kw.below HB1.out).trans (KwA.e HF.out.2.2)).trans (KwA.f (HF4.out.2.mono fun k t _ hh => ⟨hsub2 k hh.1, hh.2⟩))⟩
set_option maxRecDepth 100000 in
set_option maxHeartbeats 4000000 in
theorem orElse_any [Inhabited LowT] (n : Nat) (hE : ExpOk n) (S T : Nat → Prop) (Eb fb : Nat) (σ : EnvV) (F : Flds) (deep : Int) (p : PartV) (A : Option Addr) (c : Nat) (B : Option Addr) (x : Asked) (XA : Option Addr) (xc : Nat) (w : World) (h : St w S T Eb fb σ F deep) (hb : PD n p σ F) (hp : PAt n w A p.word)
    (hd : deep + 1 = 21 - (n : Int)) (hd0 : 0 ≤ deep) (hd1 : deep ≤ 20) :
    Calls Tryd.prog 28 #[.pointer (some ⟨fb, 0, none⟩), xv p A c B x XA xc] w (DoPost S T Eb fb deep F w (doV (evalW n) p x σ .orElse)) := by
  have hlen := hb.len
  have hB1 : Below w.heap.size w (w.alloc (.cells (xcell p A c B x XA xc) 75)) := (Below.refl _ _).alloc (Nat.le_refl _) _
  have hAt : At (w.alloc (.cells (xcell p A c B x XA xc) 75)) w.heap.size 75 (xcell p A c B x XA xc) := heap_alloc_new w _
  change Calls _ _ _ _ (DoPost S T Eb fb deep F w (if x.missing = true then evalW n p.word σ else tellV p.q x.value σ))
  cases hm : x.missing with
  | true =>
    rw [if_pos rfl]
    have H := hid h
    dsimp only [xv]
    rw [hm]
    go_enter Tryd.func28, Tryd.ntmps28
    go_wp2_with fail
    rw [← hm]
    refine (other_any n hE S T Eb fb σ F deep p A c B x XA xc _ (H.out.below hB1) hb (hp.below hB1) hd hd0 hd1).mono ?_
    rintro e w3 ⟨rfl, F', hS, hF, hK⟩
    go_wp2_with fail
    go_ret
    exact ⟨rfl, F', hS, hF, (Kw.below hB1).trans hK⟩
  | false =>
    rw [if_neg (by simp)]
    have H := hid h
    dsimp only [xv]
    rw [hm]
    go_enter Tryd.func28, Tryd.ntmps28
    go_wp2_with fail
    rw [← hm]
    refine (tell_any T fb Eb F deep p A c B x XA xc _ (H.out.below hB1).fld hlen.1 hlen.2).mono ?_
    rintro e w3 ⟨rfl, hF, hK⟩
    go_wp2_with fail
    go_ret
    exact ⟨rfl, _, (H.out.below hB1).kwF hK hF, fun _ => rfl, (Kw.below hB1).trans (KwA.f hK)⟩
set_option maxRecDepth 100000 in
set_option maxHeartbeats 4000000 in
theorem instead_any [Inhabited LowT] (n : Nat) (hE : ExpOk n) (S T : Nat → Prop) (Eb fb : Nat) (σ : EnvV) (F : Flds) (deep : Int) (p : PartV) (A : Option Addr) (c : Nat) (B : Option Addr) (x : Asked) (XA : Option Addr) (xc : Nat) (w : World) (h : St w S T Eb fb σ F deep) (hb : PD n p σ F) (hp : PAt n w A p.word)
    (hd : deep + 1 = 21 - (n : Int)) (hd0 : 0 ≤ deep) (hd1 : deep ≤ 20) :
    Calls Tryd.prog 29 #[.pointer (some ⟨fb, 0, none⟩), xv p A c B x XA xc] w (DoPost S T Eb fb deep F w (doV (evalW n) p x σ .instead)) := by
  have hlen := hb.len
  have hB1 : Below w.heap.size w (w.alloc (.cells (xcell p A c B x XA xc) 75)) := (Below.refl _ _).alloc (Nat.le_refl _) _
  change Calls _ _ _ _ (DoPost S T Eb fb deep F w (if x.missing = true then ⟨0, [], σ⟩ else evalW n p.word σ))
  cases hm : x.missing with
  | true =>
    rw [if_pos rfl]
    have H := hid h
    dsimp only [xv]
    rw [hm]
    go_enter Tryd.func29, Tryd.ntmps29
    go_wp2_with fail
    go_ret
    dsimp only [xcell] at hB1
    rw [hm] at hB1
    exact ⟨rfl, F, H.out.below hB1, fun _ => rfl, Kw.below hB1⟩
  | false =>
    rw [if_neg (by simp)]
    have H := hid h
    dsimp only [xv]
    rw [hm]
    go_enter Tryd.func29, Tryd.ntmps29
    go_wp2_with fail
    rw [← hm]
    refine (other_any n hE S T Eb fb σ F deep p A c B x XA xc _ (H.out.below hB1) hb (hp.below hB1) hd hd0 hd1).mono ?_
    rintro e w3 ⟨rfl, F', hS, hF, hK⟩
    go_wp2_with fail
    go_ret
    exact ⟨rfl, F', hS, hF, (Kw.below hB1).trans hK⟩
set_option maxRecDepth 100000 in
set_option maxHeartbeats 4000000 in
theorem must_any [Inhabited LowT] (n : Nat) (hE : ExpOk n) (S T : Nat → Prop) (Eb fb : Nat) (σ : EnvV) (F : Flds) (deep : Int) (p : PartV) (A : Option Addr) (c : Nat) (B : Option Addr) (x : Asked) (XA : Option Addr) (xc : Nat) (w : World) (h : St w S T Eb fb σ F deep) (hb : PD n p σ F) (hp : PAt n w A p.word)
    (hd : deep + 1 = 21 - (n : Int)) (hd0 : 0 ≤ deep) (hd1 : deep ≤ 20) :
    Calls Tryd.prog 31 #[.pointer (some ⟨fb, 0, none⟩), xv p A c B x XA xc] w (DoPost S T Eb fb deep F w (doV (evalW n) p x σ .must)) := by
  have hlen := hb.len
  have hB1 : Below w.heap.size w (w.alloc (.cells (xcell p A c B x XA xc) 75)) := (Below.refl _ _).alloc (Nat.le_refl _) _
  change Calls _ _ _ _ (DoPost S T Eb fb deep F w (if x.missing = true then ⟨2, [], σ⟩ else tellV p.q x.value σ))
  cases hm : x.missing with
  | true =>
    rw [if_pos rfl]
    have H := hid h
    dsimp only [xv]
    rw [hm]
    go_enter Tryd.func31, Tryd.ntmps31
    go_wp2_with fail
    go_ret
    dsimp only [xcell] at hB1
    rw [hm] at hB1
    exact ⟨rfl, F, H.out.below hB1, fun h => absurd h (by simp), Kw.below hB1⟩
  | false =>
    rw [if_neg (by simp)]
    have H := hid h
    dsimp only [xv]
    rw [hm]
    go_enter Tryd.func31, Tryd.ntmps31
    go_wp2_with fail
    rw [← hm]
    refine (tell_any T fb Eb F deep p A c B x XA xc _ (H.out.below hB1).fld hlen.1 hlen.2).mono ?_
    rintro e w3 ⟨rfl, hF, hK⟩
    go_wp2_with fail
    go_ret
    exact ⟨rfl, _, (H.out.below hB1).kwF hK hF, fun _ => rfl, (Kw.below hB1).trans (KwA.f hK)⟩
set_option maxRecDepth 100000 in
set_option maxHeartbeats 4000000 in
theorem size_any [Inhabited LowT] (n : Nat) (hE : ExpOk n) (S T : Nat → Prop) (Eb fb : Nat) (σ : EnvV) (F : Flds) (deep : Int) (p : PartV) (A : Option Addr) (c : Nat) (B : Option Addr) (x : Asked) (XA : Option Addr) (xc : Nat) (w : World) (h : St w S T Eb fb σ F deep) (hb : PD n p σ F) (hp : PAt n w A p.word) (hx : x.value.length ≤ 740) (hxa : x.args.length ≤ 12)
    (hd : deep + 1 = 21 - (n : Int)) (hd0 : 0 ≤ deep) (hd1 : deep ≤ 20) :
    Calls Tryd.prog 27 #[.pointer (some ⟨fb, 0, none⟩), xv p A c B x XA xc] w (DoPost S T Eb fb deep F w (doV (evalW n) p x σ .size)) := by
  have hlen := hb.len
  have hB1 : Below w.heap.size w (w.alloc (.cells (xcell p A c B x XA xc) 75)) := (Below.refl _ _).alloc (Nat.le_refl _) _
  have hsz : (ByteArray.mk x.value.toArray).size = x.value.length := by simp [ByteArray.size]
  have hAt : At (w.alloc (.cells (xcell p A c B x XA xc) 75)) w.heap.size 75 (xcell p A c B x XA xc) := heap_alloc_new w _
  have H := hid h
  cases hall : isAll p.text with
  | true =>
    change Calls _ _ _ _ (DoPost S T Eb fb deep F w (tellV p.q (Lib.itoa (if isAll p.text = true then (x.args.length : Int) else (x.value.length : Int))) σ))
    rw [hall, if_pos rfl]
    dsimp only [xv]
    go_enter Tryd.func27, Tryd.ntmps27
    go_wp2_with fail
    refine (all_any p.text _).mono ?_
    rintro e w2 ⟨rfl, rfl⟩
    rw [hall]
    go_wp2_with fail
    refine (Tryd.strconv_Itoa (x.args.length : Int) (by omega) (by omega) _ (H.out.below hB1).tab).mono ?_
    rintro e w4 ⟨rfl, nk, os, hw4⟩
    have hB4 : Below w.heap.size w w4 := hB1.trans ((hw4 ▸ below_grow _ nk os).mono (by simp))
    have hA4 : At w4 w.heap.size 75 (xcell p A c B x XA xc) := ((hw4 ▸ below_grow _ nk os : Below _ _ w4).block _ (by simp)).trans hAt
    clear hw4
    obtain ⟨y0, y1, y2, y3, y4, y5, y6, y7, y8, y9, hXl⟩ := cells10 hA4
    have z6 := hA4.frozen 6
    have HB4 := hid hB4
    have HS5 := hid ((H.out.below hB4).set75 hA4 (by have := h.cells.choose_spec.2.2.2; omega) 6 (.string ⟨(Lib.itoa (x.args.length : Int)).toArray⟩))
    have HK5 := hid ((Kw.below (M := MA S T) hB4).setNew (Nat.le_refl _) 6 (.string ⟨(Lib.itoa (x.args.length : Int)).toArray⟩))
    clear hB4 hA4
    go_wp2_with fail
    refine (tell_any T fb Eb F deep p A c B { x with value := Lib.itoa (x.args.length : Int) } XA xc _ HS5.out.fld hlen.1 hlen.2).mono ?_
    rintro e w6 ⟨rfl, hF, hK⟩
    go_wp2_with fail
    go_ret
    exact ⟨rfl, _, HS5.out.kwF hK hF, fun _ => rfl, HK5.out.trans (KwA.f hK)⟩
  | false =>
    change Calls _ _ _ _ (DoPost S T Eb fb deep F w (tellV p.q (Lib.itoa (if isAll p.text = true then (x.args.length : Int) else (x.value.length : Int))) σ))
    rw [hall, if_neg (by simp)]
    dsimp only [xv]
    go_enter Tryd.func27, Tryd.ntmps27
    go_wp2_with fail
    refine (all_any p.text _).mono ?_
    rintro e w2 ⟨rfl, rfl⟩
    rw [hall]
    go_wp2_with fail
    refine (Tryd.strconv_Itoa (x.value.length : Int) (by omega) (by omega) _ (H.out.below hB1).tab).mono ?_
    rintro e w4 ⟨rfl, nk, os, hw4⟩
    have hB4 : Below w.heap.size w w4 := hB1.trans ((hw4 ▸ below_grow _ nk os).mono (by simp))
    have hA4 : At w4 w.heap.size 75 (xcell p A c B x XA xc) := ((hw4 ▸ below_grow _ nk os : Below _ _ w4).block _ (by simp)).trans hAt
    clear hw4
    obtain ⟨y0, y1, y2, y3, y4, y5, y6, y7, y8, y9, hXl⟩ := cells10 hA4
    have z6 := hA4.frozen 6
    have HB4 := hid hB4
    have HS5 := hid ((H.out.below hB4).set75 hA4 (by have := h.cells.choose_spec.2.2.2; omega) 6 (.string ⟨(Lib.itoa (x.value.length : Int)).toArray⟩))
    have HK5 := hid ((Kw.below (M := MA S T) hB4).setNew (Nat.le_refl _) 6 (.string ⟨(Lib.itoa (x.value.length : Int)).toArray⟩))
    clear hB4 hA4
    go_wp2_with fail
    refine (tell_any T fb Eb F deep p A c B { x with value := Lib.itoa (x.value.length : Int) } XA xc _ HS5.out.fld hlen.1 hlen.2).mono ?_
    rintro e w6 ⟨rfl, hF, hK⟩
    go_wp2_with fail
    go_ret
    exact ⟨rfl, _, HS5.out.kwF hK hF, fun _ => rfl, HK5.out.trans (KwA.f hK)⟩
end Go.Proofs.YtklihdlfbhgpeaaDoor
