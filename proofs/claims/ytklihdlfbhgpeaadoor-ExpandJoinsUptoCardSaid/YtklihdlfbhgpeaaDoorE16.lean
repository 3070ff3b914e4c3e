/-
  The walk of trim.
-/
import Derived.Test.YtklihdlfbhgpeaaDoorTJ
namespace Go.Proofs.YtklihdlfbhgpeaaDoor
open Go.RowKit
set_option linter.unusedVariables false

set_option maxRecDepth 100000 in
set_option maxHeartbeats 4000000 in
theorem trim_any [Inhabited LowT] (n : Nat) (hE : ExpOk n) (S T : Nat → Prop) (Eb fb : Nat) (σ : EnvV) (F : Flds) (deep : Int) (p : PartV) (A : Option Addr) (c : Nat) (B : Option Addr) (x : Asked) (XA : Option Addr) (xc : Nat) (w : World) (h : St w S T Eb fb σ F deep) (hb : PD n p σ F) (hp : PAt n w A p.word)
    (hd : deep + 1 = 21 - (n : Int)) (hd0 : 0 ≤ deep) (hd1 : deep ≤ 20) (hx : x.value.length ≤ 740) (a : UInt8) (r : Str) (hop : p.op = a :: r) :
    Calls Tryd.prog 32 #[.pointer (some ⟨fb, 0, none⟩), xv p A c B x XA xc] w (DoPost S T Eb fb deep F w (doV (evalW n) p x σ .trim)) := by
  have hlen := hb.len
  have HOP := hid hop
  clear hop
  have hB1 : Below w.heap.size w (w.alloc (.cells (xcell p A c B x XA xc) 75)) := (Below.refl _ _).alloc (Nat.le_refl _) _
  have hAt : At (w.alloc (.cells (xcell p A c B x XA xc) 75)) w.heap.size 75 (xcell p A c B x XA xc) := heap_alloc_new w _
  change Calls _ _ _ _ (DoPost S T Eb fb deep F w (trimOut (evalW n) p x σ))
  have H := hid h
  have hbd := evalW_bd n p.word σ hb.ok
  have hwt := hb.wt
  have hsub := hb.sub
  have hwt2 := hbd.wt
  have hav : trimOut (evalW n) p x σ = if (evalW n p.word σ).e = 0 then tellV p.q (trimV p.op (flatR (evalW n p.word σ).F) x.value) (evalW n p.word σ).s else ⟨(evalW n p.word σ).e, [], (evalW n p.word σ).s⟩ := by
    unfold trimOut; rfl
  obtain ⟨R, hR⟩ : ∃ R, R = trimOut (evalW n) p x σ := ⟨_, rfl⟩
  rw [← hR]
  rw [hav] at hR
  have HR := hid hR
  clear hR hav
  dsimp only [xv]
  dsimp only [xcell] at hB1 hAt
  go_enter Tryd.func32, Tryd.ntmps32
  go_wp2_with fail
  obtain ⟨W, hW⟩ : ∃ W, W = w.alloc (.cells #[.int .i64 p.kind, .string ⟨p.text.toArray⟩, .string ⟨p.op.toArray⟩, .bool p.q, .slice A p.word.length c, .pointer B, .string ⟨x.value.toArray⟩, .bool x.set, .slice XA x.args.length xc, .bool x.missing] 75) := ⟨_, rfl⟩
  rw [← hW] at hB1 hAt ⊢
  clear hW
  have HB1 := hid hB1
  have HAT := hid hAt
  refine (word_any n hE S T Eb fb σ F deep p A c B W (H.out.below hB1) hb (hp.below hB1) hd hd0 hd1).mono ?_
  rintro e w3 ⟨v, rfl, hF3, hN3, hS3, hK3⟩
  have hA3 := hK3.at_ hAt (fun h => absurd h.2 (by decide))
  have hS4 := hS3.wider (TC_sub (H.out.below hB1).fld.up hK3.size) H.out.T0
  have hK4 : Kw (ME S) w w3 := (Kw.below hB1).trans hK3
  obtain ⟨y0, y1, y2, y3, y4, y5, y6, y7, y8, y9, hXl⟩ := cells10 hA3
  have HA3 := hid hA3
  have HS4 := hid hS4
  have HK4 := hid hK4
  have HBD := hid hbd
  have HF3 := hid hF3
  have HB := hid hb
  generalize evalW n p.word σ = o at *
  obtain ⟨oe, oF, os⟩ := o
  dsimp only at *
  clear hA3 hS4 hK4 hS3 hK3 hbd hAt hB1 hF3 hN3 hp h hb
  by_cases h0 : oe = 0
  · subst h0
    have hwF : wtF oF ≤ 100000000 := by omega
    obtain ⟨hf1, hf2, hf3⟩ := flat_wtF oF
    have hl1 := len_wtF oF
    go_upto_region 4 with fail
    go_cut [7, 8, 9] (fun s7 s8 s9 wx => ∃ b7 b8 b9, s7 = .pointer (some ⟨b7, 0, none⟩) ∧ s8 = .pointer (some ⟨b8, 0, none⟩) ∧ s9 = .pointer (some ⟨b9, 0, none⟩) ∧ Hid (Below w3.heap.size w3 wx ∧ w3.heap.size ≤ b7 ∧ w3.heap.size ≤ b8 ∧ w3.heap.size ≤ b9 ∧ ∃ A5 c5, TR wx 40 3 A5 (flatR oF).length (rnv (flatR oF)) ∧ At wx b7 38 #[.slice A5 (flatR oF).length c5] ∧ At wx b8 9 #[.string ⟨x.value.toArray⟩] ∧ At wx b9 3 #[.int .i64 x.value.length]))
    case first =>
      refine wp_region_any (by kernel_rfl) ?_
      refine wpAny_start (by kernel_rfl) (fun D a w4 => ∃ V, a = { tmps := #[.pointer (some ⟨fb, 0, none⟩), .agg #[.int .i64 p.kind, .string ⟨p.text.toArray⟩, .string ⟨p.op.toArray⟩, .bool p.q, .slice A p.word.length c, .pointer B, .string ⟨x.value.toArray⟩, .bool x.set, .slice XA x.args.length xc, .bool x.missing],
          undef, .pointer (some ⟨w.heap.size, 0, none⟩), .int .i64 0, v, .int .i64 0, V 7, V 8, V 9, undef, undef, undef, undef, .tuple #[v, .int .i64 0], .pointer (some ⟨fb, 0, none⟩), .pointer (some ⟨w.heap.size, 0, none⟩),
          .agg #[.int .i64 p.kind, .string ⟨p.text.toArray⟩, .string ⟨p.op.toArray⟩, .bool p.q, .slice A p.word.length c, .pointer B], .tuple #[v, .int .i64 0], v, .int .i64 0, .int .i64 0, .bool false, undef,
          V 0, V 1, V 2, V 3, V 4, V 5, V 6, undef, undef, undef, undef, undef, undef, undef, undef, undef, undef, undef, undef, undef, undef, undef, undef, undef, undef, undef, undef, undef, undef, undef, undef, undef, undef, undef], defers := [] } ∧ Hid (TJ w3 w4 D V v x.value (flatR oF) w.heap.size)) ?_ ?_ ?_
      · rintro D a4 w4 i K hi hDi hdep ⟨V, rfl, HJ⟩ hK
        have HK := hid hK
        clear hK
        have hi' : i = 0 ∨ i = 1 ∨ i = 2 ∨ i = 3 ∨ i = 4 ∨ i = 5 ∨ i = 6 ∨ i = 7 ∨ i = 8 ∨ i = 9 ∨ i = 10 ∨ i = 11 ∨ i = 12 := by
          have : i < 13 := hi
          omega
        clear hi
        rcases hi' with rfl | rfl | rfl | rfl | rfl | rfl | rfl | rfl | rfl | rfl | rfl | rfl | rfl
        · refine wpOp_go rfl ?_
          go_simp
          exact HK.out _ _ ⟨UV 0 v V, rfl, hid ((HJ.out).val 0 _ hDi (by decide) (fun _ => rfl) (fun e => absurd e (by decide)) (fun e => absurd e (by decide)) (fun e => absurd e (by decide)) (fun e => absurd e (by decide)) (fun e => absurd e (by decide)) (fun e => absurd e (by decide)) (fun e => absurd e (by decide)) (fun e => absurd e (by decide)) (fun e => absurd e (by decide)))⟩
        · have hd := hdep _ rfl
          simp [Region.binds] at hd
          have e0 := HJ.out.h0 hd
          refine wpOp_go rfl ?_
          go_wp2_with (go_at_call 44; refine (flat_any _ oF v w4 ((HF3.out trivial).kw (M := fun _ _ => False) (Kw.below HJ.out.bw) fun _ _ _ _ h => h) (by omega) (by omega)).mono ?_; rintro e w5 ⟨⟨A5, c5, rfl, hR5⟩, hB5⟩)
          refine HK.out _ _ ⟨UV 1 (.slice A5 (flatR oF).length c5) V, by simp [UV, e0], hid ((HJ.out.world hB5).val 1 _ hDi (by decide) (fun e => absurd e (by decide)) (fun _ => ⟨A5, c5, rfl, hR5⟩) (fun e => absurd e (by decide)) (fun e => absurd e (by decide)) (fun e => absurd e (by decide)) (fun e => absurd e (by decide)) (fun e => absurd e (by decide)) (fun e => absurd e (by decide)) (fun e => absurd e (by decide)) (fun e => absurd e (by decide)))⟩
        · refine wpOp_go rfl ?_
          go_simp
          exact HK.out _ _ ⟨UV 2 _ V, rfl, hid ((HJ.out).val 2 _ hDi (by decide) (fun e => absurd e (by decide)) (fun e => absurd e (by decide)) (fun _ => rfl) (fun e => absurd e (by decide)) (fun e => absurd e (by decide)) (fun e => absurd e (by decide)) (fun e => absurd e (by decide)) (fun e => absurd e (by decide)) (fun e => absurd e (by decide)) (fun e => absurd e (by decide)))⟩
        · have hd := hdep _ rfl
          simp [Region.binds] at hd
          have e2 := HJ.out.h2 hd
          have hc6 := cell_below y6 HJ.out.bw
          refine wpOp_go rfl ?_
          go_simp
          refine HK.out _ _ ⟨UV 3 (.string ⟨x.value.toArray⟩) V, by simp [UV, e2], hid ((HJ.out).val 3 _ hDi (by decide) (fun e => absurd e (by decide)) (fun e => absurd e (by decide)) (fun e => absurd e (by decide)) (fun _ => rfl) (fun e => absurd e (by decide)) (fun e => absurd e (by decide)) (fun e => absurd e (by decide)) (fun e => absurd e (by decide)) (fun e => absurd e (by decide)) (fun e => absurd e (by decide)))⟩
        · refine wpOp_go rfl ?_
          go_simp
          exact HK.out _ _ ⟨UV 4 _ V, rfl, hid ((HJ.out).val 4 _ hDi (by decide) (fun e => absurd e (by decide)) (fun e => absurd e (by decide)) (fun e => absurd e (by decide)) (fun e => absurd e (by decide)) (fun _ => rfl) (fun e => absurd e (by decide)) (fun e => absurd e (by decide)) (fun e => absurd e (by decide)) (fun e => absurd e (by decide)) (fun e => absurd e (by decide)))⟩
        · have hd := hdep _ rfl
          simp [Region.binds] at hd
          have e4 := HJ.out.h4 hd
          have hc6 := cell_below y6 HJ.out.bw
          refine wpOp_go rfl ?_
          go_simp
          refine HK.out _ _ ⟨UV 5 (.string ⟨x.value.toArray⟩) V, by simp [UV, e4], hid ((HJ.out).val 5 _ hDi (by decide) (fun e => absurd e (by decide)) (fun e => absurd e (by decide)) (fun e => absurd e (by decide)) (fun e => absurd e (by decide)) (fun e => absurd e (by decide)) (fun _ => rfl) (fun e => absurd e (by decide)) (fun e => absurd e (by decide)) (fun e => absurd e (by decide)) (fun e => absurd e (by decide)))⟩
        · have hd := hdep _ rfl
          simp [Region.binds] at hd
          have e5 := HJ.out.h5 hd
          refine wpOp_go rfl ?_
          go_simp
          refine HK.out _ _ ⟨UV 6 (.int .i64 x.value.length) V, by simp [UV, e5], hid ((HJ.out).val 6 _ hDi (by decide) (fun e => absurd e (by decide)) (fun e => absurd e (by decide)) (fun e => absurd e (by decide)) (fun e => absurd e (by decide)) (fun e => absurd e (by decide)) (fun e => absurd e (by decide)) (fun _ => rfl) (fun e => absurd e (by decide)) (fun e => absurd e (by decide)) (fun e => absurd e (by decide)))⟩
        · refine wpOp_go rfl ?_
          go_simp
          have hBa : Below w4.heap.size w4 (w4.alloc (.cells #[.slice none 0 0] 38)) := (Below.refl _ _).alloc (Nat.le_refl _) _
          exact HK.out _ _ ⟨UV 7 _ V, rfl, hid ((HJ.out.world hBa).val 7 _ hDi (by decide) (fun e => absurd e (by decide)) (fun e => absurd e (by decide)) (fun e => absurd e (by decide)) (fun e => absurd e (by decide)) (fun e => absurd e (by decide)) (fun e => absurd e (by decide)) (fun e => absurd e (by decide)) (fun _ => ⟨_, rfl, HJ.out.bw.size, _, heap_alloc_new w4 _⟩) (fun e => absurd e (by decide)) (fun e => absurd e (by decide)))⟩
        · refine wpOp_go rfl ?_
          go_simp
          have hBa : Below w4.heap.size w4 (w4.alloc (.cells #[.string ⟨#[]⟩] 9)) := (Below.refl _ _).alloc (Nat.le_refl _) _
          exact HK.out _ _ ⟨UV 8 _ V, rfl, hid ((HJ.out.world hBa).val 8 _ hDi (by decide) (fun e => absurd e (by decide)) (fun e => absurd e (by decide)) (fun e => absurd e (by decide)) (fun e => absurd e (by decide)) (fun e => absurd e (by decide)) (fun e => absurd e (by decide)) (fun e => absurd e (by decide)) (fun e => absurd e (by decide)) (fun _ => ⟨_, rfl, HJ.out.bw.size, _, heap_alloc_new w4 _⟩) (fun e => absurd e (by decide)))⟩
        · refine wpOp_go rfl ?_
          go_simp
          have hBa : Below w4.heap.size w4 (w4.alloc (.cells #[.int .i64 0] 3)) := (Below.refl _ _).alloc (Nat.le_refl _) _
          exact HK.out _ _ ⟨UV 9 _ V, rfl, hid ((HJ.out.world hBa).val 9 _ hDi (by decide) (fun e => absurd e (by decide)) (fun e => absurd e (by decide)) (fun e => absurd e (by decide)) (fun e => absurd e (by decide)) (fun e => absurd e (by decide)) (fun e => absurd e (by decide)) (fun e => absurd e (by decide)) (fun e => absurd e (by decide)) (fun e => absurd e (by decide)) (fun _ => ⟨_, rfl, HJ.out.bw.size, _, heap_alloc_new w4 _⟩))⟩
        · have hd1 : D 1 = true := hdep _ rfl ⟨1, .data⟩ (by simp) rfl
          have hd7 : D 7 = true := hdep _ rfl ⟨7, .data⟩ (by simp) rfl
          obtain ⟨b, e7, hb, u, hA, _⟩ := HJ.out.h7 hd7
          obtain ⟨A5, c5, e1, hT⟩ := HJ.out.h1 hd1
          have hc7 : w4.cell? ⟨b, 0, none⟩ = some u := by rw [hA.cell]; rfl
          have hz7 := hA.frozen 0
          have hl7 := hA.lt
          have hs := HJ.out.store 10 b 38 _ _ hA hb undef (.inl ⟨rfl, rfl, hd1, hd7, e7, rfl⟩)
          rw [e1] at hs
          have HS := hid hs
          clear hs hA
          refine wpOp_go rfl ?_
          go_simp
          refine HK.out _ _ ⟨UV 10 undef V, by simp [UV, e7, e1], HS⟩
        · have hd3 : D 3 = true := hdep _ rfl ⟨3, .data⟩ (by simp) rfl
          have hd8 : D 8 = true := hdep _ rfl ⟨8, .data⟩ (by simp) rfl
          obtain ⟨b, e7, hb, u, hA, _⟩ := HJ.out.h8 hd8
          have e1 := HJ.out.h3 hd3
          have hc7 : w4.cell? ⟨b, 0, none⟩ = some u := by rw [hA.cell]; rfl
          have hz7 := hA.frozen 0
          have hl7 := hA.lt
          have hs := HJ.out.store 11 b 9 _ _ hA hb undef (.inr (.inl ⟨rfl, rfl, hd3, hd8, e7, rfl⟩))
          rw [e1] at hs
          have HS := hid hs
          clear hs hA
          refine wpOp_go rfl ?_
          go_simp
          refine HK.out _ _ ⟨UV 11 undef V, by simp [UV, e7, e1], HS⟩
        · have hd6 : D 6 = true := hdep _ rfl ⟨6, .data⟩ (by simp) rfl
          have hd9 : D 9 = true := hdep _ rfl ⟨9, .data⟩ (by simp) rfl
          obtain ⟨b, e7, hb, u, hA, _⟩ := HJ.out.h9 hd9
          have e1 := HJ.out.h6 hd6
          have hc7 : w4.cell? ⟨b, 0, none⟩ = some u := by rw [hA.cell]; rfl
          have hz7 := hA.frozen 0
          have hl7 := hA.lt
          have hs := HJ.out.store 12 b 3 _ _ hA hb undef (.inr (.inr ⟨rfl, rfl, hd6, hd9, e7, rfl⟩))
          rw [e1] at hs
          have HS := hid hs
          clear hs hA
          refine wpOp_go rfl ?_
          go_simp
          refine HK.out _ _ ⟨UV 12 undef V, by simp [UV, e7, e1], HS⟩
      · rintro D a4 w4 hD ⟨V, rfl, HJ⟩
        have hD' : ∀ i, i < 13 → D i = true := hD
        obtain ⟨b7, e7, hb7, u7, hA7, hu7⟩ := HJ.out.h7 (hD' 7 (by decide))
        obtain ⟨b8, e8, hb8, u8, hA8, hu8⟩ := HJ.out.h8 (hD' 8 (by decide))
        obtain ⟨b9, e9, hb9, u9, hA9, hu9⟩ := HJ.out.h9 (hD' 9 (by decide))
        obtain ⟨A5, c5, e1, hT⟩ := HJ.out.h1 (hD' 1 (by decide))
        have e3 := HJ.out.h3 (hD' 3 (by decide))
        have e6 := HJ.out.h6 (hD' 6 (by decide))
        obtain rfl := (hu7 (hD' 10 (by decide))).trans e1
        obtain rfl := (hu8 (hD' 11 (by decide))).trans e3
        obtain rfl := (hu9 (hD' 12 (by decide))).trans e6
        have HFIN : Hid (Below w3.heap.size w3 w4 ∧ w3.heap.size ≤ b7 ∧ w3.heap.size ≤ b8 ∧ w3.heap.size ≤ b9 ∧ ∃ A5 c5, TR w4 40 3 A5 (flatR oF).length (rnv (flatR oF)) ∧ At w4 b7 38 #[.slice A5 (flatR oF).length c5] ∧ At w4 b8 9 #[.string ⟨x.value.toArray⟩] ∧ At w4 b9 3 #[.int .i64 x.value.length]) :=
          hid ⟨HJ.out.bw, hb7, hb8, hb9, A5, c5, hT, hA7, hA8, hA9⟩
        clear hT hA7 hA8 hA9 hu7 hu8 hu9 hD hD'
        dsimp only
        rw [e7, e8, e9]
        go_wp2_with fail
        go_meet
        exact ⟨b7, b8, b9, rfl, rfl, rfl, HFIN⟩
      · exact ⟨fun _ => undef, rfl, hid ⟨⟨rfl, rfl, rfl, Nat.le_refl _, fun _ _ => rfl⟩, fun h => (by cases h), fun h => (by cases h), fun h => (by cases h), fun h => (by cases h), fun h => (by cases h), fun h => (by cases h), fun h => (by cases h), fun h => (by cases h), fun h => (by cases h), fun h => (by cases h), fun h => (by cases h), fun h => (by cases h), fun h => (by cases h)⟩⟩
    case rest =>
      obtain ⟨b7, b8, b9, rfl, rfl, rfl, HZ⟩ := hcut
      obtain ⟨hBz, hb7, hb8, hb9, A5, c5, hT, hA7, hA8, hA9⟩ := HZ.out
      have hA4 := HA3.out.below hBz hXl
      have HT := hid (pat_flat hT.rc hwF)
      have HA4 := hid hA4
      have HS5 := hid (HS4.out.below hBz)
      have HK5 := hid (HK4.out.trans (Kw.below hBz))
      have hXl4 := hA4.lt
      have q7 : wc.cell? ⟨b7, 0, none⟩ = some (.slice A5 (flatR oF).length c5) := by rw [hA7.cell]; rfl
      have q8 : wc.cell? ⟨b8, 0, none⟩ = some (.string ⟨x.value.toArray⟩) := by rw [hA8.cell]; rfl
      have q9 : wc.cell? ⟨b9, 0, none⟩ = some (.int .i64 x.value.length) := by rw [hA9.cell]; rfl
      have HQ := hid (And.intro q7 (And.intro q8 q9))
      clear hBz hb7 hb8 hb9 hT hA7 hA8 hA9 hA4 HZ y0 y1 y2 y3 y4 y5 y6 y7 y8 y9 q7 q8
      have hxI : (x.value.length : Int) ≤ 740 := by omega
      go_wp2_with fail
      go_loopg [34] (x.value.length + 1) (fun m v34 wr => ∃ i : Nat, m + i = x.value.length + 1 ∧ v34 = .int .i64 i ∧ Below wc.heap.size wc wr ∧ Hid (trimV p.op (flatR oF) x.value = trimGo p.op (flatR oF) x.value m i))
      case atStart => exact ⟨0, rfl, rfl, Below.refl _ _, hid rfl⟩
      case round =>
        obtain ⟨i, hm, rfl, hBr, HG⟩ := hrel
        have HM := hid hm
        have HBR := hid hBr
        have hAr := HA4.out.below hBr hXl4
        obtain ⟨y0, y1, y2, y3, y4, y5, y6, y7, y8, y9, hXlr⟩ := cells10 hAr
        have q9r := cell_below HQ.out.2.2 hBr
        have HAR := hid hAr
        clear hm hBr hAr q9
        by_cases hi : i < x.value.length + 1
        · have hiI : (i : Int) < (x.value.length : Int) + 1 := by omega
          obtain ⟨m, rfl⟩ : ∃ m, gk = m + 1 := ⟨gk - 1, by have := HM.out; omega⟩
          obtain ⟨k, hk⟩ : ∃ k, k = kAt p.op x.value i := ⟨_, rfl⟩
          have hkl : k ≤ x.value.length := by rw [hk]; unfold kAt; split <;> omega
          have hcut := cut_any a r x.value (flatR oF) A5 c5 k w.heap.size b8 b7 b9 wr (by rw [← HOP.out]; exact y2) (cell_below HQ.out.2.1 HBR.out) (cell_below HQ.out.1 HBR.out) q9r (HT.out.below HBR.out) hkl hx
          rw [← HOP.out] at hcut
          have HKK := hid hk
          by_cases h2 : (p.op.length : Int) = 2
          · have hke : k = x.value.length - i := by rw [hk]; unfold kAt; rw [if_pos (by omega)]
            have hwr : IntKind.i64.wrap ((x.value.length : Int) - (i : Int)) = ((x.value.length - i : Nat) : Int) := by rw [IntWalk.i64_in _ (by omega)]; omega
            rw [hke] at hcut
            have hG := HG.out
            rw [trimGo, ← hk, hke] at hG
            have HGG := hid hG
            clear hG HG hk HKK
            obtain ⟨lf, hlf⟩ : ∃ lf, lf = leftV p.op x.value (x.value.length - i) := ⟨_, rfl⟩
            obtain ⟨ct, hct⟩ : ∃ ct, ct = cutV p.op (flatR oF) x.value (x.value.length - i) := ⟨_, rfl⟩
            rw [← hlf, ← hct] at hcut
            have HL := hid (And.intro hlf hct)
            have HC := hid hcut
            clear hcut hlf hct hke
            go_wp2_with fail
            refine HC.out.mono ?_
            rintro e w5 ⟨rfl, hB5⟩
            have hA5 := HAR.out.below hB5 hXlr
            have HB5 := hid (HBR.out.trans (hB5.mono HBR.out.size))
            clear y0 y1 y2 y3 y4 y5 y6 y7 y8 y9 hB5 q9r
            obtain ⟨y0, y1, y2, y3, y4, y5, y6, y7, y8, y9, hXl5⟩ := cells10 hA5
            have z6 := hA5.frozen 6
            have HA5 := hid hA5
            clear hA5
            cases ct with
            | true =>
              go_wp2_with fail
              have hpos : 0 < w.heap.size := by have := H.out.cells.choose_spec.2.2.2; omega
              obtain ⟨W7, hW7⟩ : ∃ W7, W7 = w5.setCell ⟨w.heap.size, 6, none⟩ (.string ⟨lf.toArray⟩) := ⟨_, rfl⟩
              have HS7 : Hid (St W7 S T Eb fb os F deep) := by rw [hW7]; exact hid ((HS5.out.below HB5.out).set75 HA5.out hpos _ _)
              have HK7 : Hid (Kw (ME S) w W7) := by rw [hW7]; exact hid ((HK5.out.trans (Kw.below HB5.out)).setNew (Nat.le_refl _) _ _)
              have HA7 : Hid (At W7 w.heap.size 75 #[.int .i64 p.kind, .string ⟨p.text.toArray⟩, .string ⟨p.op.toArray⟩, .bool p.q, .slice A p.word.length c, .pointer B, .string ⟨lf.toArray⟩, .bool x.set, .slice XA x.args.length xc, .bool x.missing]) := by
                rw [hW7]; exact hid (HA5.out.set 6 _)
              rw [← hW7]
              clear hW7 y0 y1 y2 y3 y4 y5 y6 y7 y8 y9 z6
              obtain ⟨y0, y1, y2, y3, y4, y5, y6, y7, y8, y9, hXl7⟩ := cells10 HA7.out
              go_wp2_with fail
              refine (tell_any T fb Eb F deep p A c B ⟨lf, x.set, x.args, x.missing⟩ XA xc W7 HS7.out.fld hlen.1 hlen.2).mono ?_
              rintro e w9 ⟨rfl, hF, hK⟩
              go_wp2_with fail
              go_ret
              rw [HR.out, if_pos trivial, HGG.out, if_pos (by rw [← HL.out.2]), ← HL.out.1]
              exact ⟨rfl, _, HS7.out.kwF hK hF, fun _ => rfl, (KwA.e HK7.out).trans (KwA.f hK)⟩
            | false =>
              go_wp2_with fail
              go_roundg m
              case measure => go_light; omega
              case rel =>
                go_light
                have hm := HM.out
                refine ⟨i + 1, by omega, int_cast (by omega), HB5.out, hid ?_⟩
                rw [HGG.out, if_neg (by rw [← HL.out.2]; simp)]
          · have hke : k = i := by rw [hk]; unfold kAt; rw [if_neg (by omega)]
            rw [hke] at hcut
            have hG := HG.out
            rw [trimGo, ← hk, hke] at hG
            have HGG := hid hG
            clear hG HG hk HKK
            obtain ⟨lf, hlf⟩ : ∃ lf, lf = leftV p.op x.value (i) := ⟨_, rfl⟩
            obtain ⟨ct, hct⟩ : ∃ ct, ct = cutV p.op (flatR oF) x.value (i) := ⟨_, rfl⟩
            rw [← hlf, ← hct] at hcut
            have HL := hid (And.intro hlf hct)
            have HC := hid hcut
            clear hcut hlf hct hke
            go_wp2_with fail
            refine HC.out.mono ?_
            rintro e w5 ⟨rfl, hB5⟩
            have hA5 := HAR.out.below hB5 hXlr
            have HB5 := hid (HBR.out.trans (hB5.mono HBR.out.size))
            clear y0 y1 y2 y3 y4 y5 y6 y7 y8 y9 hB5 q9r
            obtain ⟨y0, y1, y2, y3, y4, y5, y6, y7, y8, y9, hXl5⟩ := cells10 hA5
            have z6 := hA5.frozen 6
            have HA5 := hid hA5
            clear hA5
            cases ct with
            | true =>
              go_wp2_with fail
              have hpos : 0 < w.heap.size := by have := H.out.cells.choose_spec.2.2.2; omega
              obtain ⟨W7, hW7⟩ : ∃ W7, W7 = w5.setCell ⟨w.heap.size, 6, none⟩ (.string ⟨lf.toArray⟩) := ⟨_, rfl⟩
              have HS7 : Hid (St W7 S T Eb fb os F deep) := by rw [hW7]; exact hid ((HS5.out.below HB5.out).set75 HA5.out hpos _ _)
              have HK7 : Hid (Kw (ME S) w W7) := by rw [hW7]; exact hid ((HK5.out.trans (Kw.below HB5.out)).setNew (Nat.le_refl _) _ _)
              have HA7 : Hid (At W7 w.heap.size 75 #[.int .i64 p.kind, .string ⟨p.text.toArray⟩, .string ⟨p.op.toArray⟩, .bool p.q, .slice A p.word.length c, .pointer B, .string ⟨lf.toArray⟩, .bool x.set, .slice XA x.args.length xc, .bool x.missing]) := by
                rw [hW7]; exact hid (HA5.out.set 6 _)
              rw [← hW7]
              clear hW7 y0 y1 y2 y3 y4 y5 y6 y7 y8 y9 z6
              obtain ⟨y0, y1, y2, y3, y4, y5, y6, y7, y8, y9, hXl7⟩ := cells10 HA7.out
              go_wp2_with fail
              refine (tell_any T fb Eb F deep p A c B ⟨lf, x.set, x.args, x.missing⟩ XA xc W7 HS7.out.fld hlen.1 hlen.2).mono ?_
              rintro e w9 ⟨rfl, hF, hK⟩
              go_wp2_with fail
              go_ret
              rw [HR.out, if_pos trivial, HGG.out, if_pos (by rw [← HL.out.2]), ← HL.out.1]
              exact ⟨rfl, _, HS7.out.kwF hK hF, fun _ => rfl, (KwA.e HK7.out).trans (KwA.f hK)⟩
            | false =>
              go_wp2_with fail
              go_roundg m
              case measure => go_light; omega
              case rel =>
                go_light
                have hm := HM.out
                refine ⟨i + 1, by omega, int_cast (by omega), HB5.out, hid ?_⟩
                rw [HGG.out, if_neg (by rw [← HL.out.2]; simp)]
        · have := HM.out
          obtain rfl : i = x.value.length + 1 := by omega
          obtain rfl : gk = 0 := by omega
          have HS7 := hid (HS5.out.below HBR.out)
          have HK7 := hid (HK5.out.trans (Kw.below HBR.out))
          go_wp2_with fail
          refine (tell_any T fb Eb F deep p A c B x XA xc wr HS7.out.fld hlen.1 hlen.2).mono ?_
          rintro e w9 ⟨rfl, hF, hK⟩
          go_wp2_with fail
          go_ret
          rw [HR.out, if_pos trivial, HG.out, trimGo]
          exact ⟨rfl, _, HS7.out.kwF hK hF, fun _ => rfl, (KwA.e HK7.out).trans (KwA.f hK)⟩
  · go_wp2_with fail
    go_ret
    rw [HR.out, if_neg h0]
    exact ⟨rfl, F, HS4.out, fun h => absurd h h0, KwA.e HK4.out⟩
end Go.Proofs.YtklihdlfbhgpeaaDoor
