/-
  The walk of few: variables and arguments, twelve at most, cut to sixty bytes. No conditions.
-/
import Derived.Test.YtklihdlfbhgpeaaDoorJA
namespace Go.Proofs.YtklihdlfbhgpeaaDoor
open Go.RowKit
set_option linter.unusedVariables false

set_option maxRecDepth 100000 in
set_option maxHeartbeats 4000000 in
theorem few_any (l : List (Str × Str)) (al : List Str) (st : Int) (A1 A2 : Option Addr) (c1 c2 : Nat) (w : World) (h1 : Rc w 2 A1 l.length (vrv l)) (h2 : Rc w 1 A2 al.length (txv al)) :
    Calls Tryd.prog 8 #[.agg #[.slice A1 l.length c1, .slice A2 al.length c2, .int .i64 st]] w fun e w' => (∃ v, e = .returned v ∧ FewAt w.heap.size w' v (fewL l 12) (fewA al 12) (st.tmod 1000) ∧ Below w.heap.size w w') := by
  obtain ⟨i44, hj, hy0, hy1, hy2⟩ := info_parts infoV
  obtain ⟨i9, hi, hz0, hz1, hz2⟩ := info_parts infoS
  obtain ⟨K1, hK1⟩ : ∃ K, K = min l.length 12 := ⟨_, rfl⟩
  obtain ⟨K2, hK2⟩ : ∃ K, K = min al.length 12 := ⟨_, rfl⟩
  have H1 := hid h1
  have H2 := hid h2
  have HK := hid (And.intro hK1 hK2)
  clear h1 h2 hK1 hK2
  obtain ⟨src, hsrc⟩ : ∃ s : Array Value, s = #[.slice A1 l.length c1, .slice A2 al.length c2, .int .i64 st] := ⟨_, rfl⟩
  have HSRC := hid hsrc
  go_enter Tryd.func8, Tryd.ntmps8
  go_wp2_with fail
  obtain ⟨W, hW⟩ : ∃ W, W = ((w.alloc (.cells #[.slice A1 l.length c1, .slice A2 al.length c2, .int .i64 st] 26)).alloc (.cells #[.slice none 0 0, .slice none 0 0, .int .i64 0] 26)).alloc (.cells #[.slice none 0 0, .slice none 0 0, .int .i64 (st.tmod 1000)] 26) := ⟨_, rfl⟩
  have hF : FI w W src (st.tmod 1000) [] [] (.slice none 0 0) (.slice none 0 0) := by
    refine ⟨?_, ?_, ?_, ?_, World.ownsRow_nil _ _ _ _, World.ownsRow_nil _ _ _ _⟩
    · rw [hW]; exact (((Below.refl _ _).alloc (Nat.le_refl _) _).alloc (by simp) _).alloc (by simp; omega) _
    · rw [hW, hsrc]; exact At.alloc (At.alloc (heap_alloc_new w _) _) _
    · rw [hW]
      have := heap_alloc_new (w.alloc (.cells #[.slice A1 l.length c1, .slice A2 al.length c2, .int .i64 st] 26)) (.cells #[.slice none 0 0, .slice none 0 0, .int .i64 0] 26)
      simp only [World.size_alloc] at this
      exact At.alloc this _
    · rw [hW]
      have := heap_alloc_new ((w.alloc (.cells #[.slice A1 l.length c1, .slice A2 al.length c2, .int .i64 st] 26)).alloc (.cells #[.slice none 0 0, .slice none 0 0, .int .i64 0] 26)) (.cells #[.slice none 0 0, .slice none 0 0, .int .i64 (st.tmod 1000)] 26)
      simp only [World.size_alloc] at this
      exact this
  rw [← hW]
  have HF0 := hid hF
  clear hW hF hsrc
  go_loopg [4] K1 (fun m v4 wr => ∃ (k : Nat) (vL : Value), m + k = K1 ∧ v4 = .int .i64 k ∧ Hid (FI w wr src (st.tmod 1000) (fewL l k) [] vL (.slice none 0 0)))
  case atStart => exact ⟨0, _, by omega, rfl, HF0⟩
  case round =>
    obtain ⟨k, vL, hm, rfl, HF⟩ := hrel
    have HM := hid hm
    clear hm
    have hs := HF.out.src
    rw [HSRC.out] at hs
    have s0 : wr.cell? ⟨w.heap.size, 0, none⟩ = some (.slice A1 l.length c1) := by rw [hs.cell]; rfl
    have z0 : wr.cell? ⟨w.heap.size + 1 + 1, 0, none⟩ = some vL := by rw [HF.out.box.cell]; rfl
    clear hs
    by_cases hk : k < K1
    · have hk8 : (k : Int) < 12 := by have := HK.out.1; omega
      have hkl : k < l.length := by have := HK.out.1; omega
      have hklI : (k : Int) < (l.length : Int) := by omega
      obtain ⟨b1, off1, hA1, hl1, hc1⟩ := H1.out.2 (by omega)
      subst hA1
      obtain ⟨g1, g2⟩ := vrv_get l k hkl
      have x1 := cell_blw (hc1 _ _ g1) HF.out.bel
      have x2 := cell_blw (hc1 _ _ g2) HF.out.bel
      rw [← Nat.add_assoc] at x2
      obtain ⟨a, ha⟩ : ∃ a, a = (l.getD k ([], [])).1 := ⟨_, rfl⟩
      obtain ⟨b, hb⟩ : ∃ b, b = (l.getD k ([], [])).2 := ⟨_, rfl⟩
      rw [← ha] at x1
      rw [← hb] at x2
      have HA := hid ha
      have HB := hid hb
      clear g1 g2 hl1 hc1 ha hb
      obtain ⟨m1, hm1⟩ : ∃ m, m = min a.length 60 := ⟨_, rfl⟩
      obtain ⟨m2, hm2⟩ : ∃ m, m = min b.length 60 := ⟨_, rfl⟩
      have f1 : min (a.length : Int) 60 = (m1 : Int) := by omega
      have f2 : (m1 : Int) ≤ (a.length : Int) := by omega
      have f3 : min (b.length : Int) 60 = (m2 : Int) := by omega
      have f4 : (m2 : Int) ≤ (b.length : Int) := by omega
      have ha2 : a.take m1 = cut60 a := cut_min a m1 60 hm1
      have hb2 : b.take m2 = cut60 b := cut_min b m2 60 hm2
      have HAB := hid (And.intro ha2 hb2)
      clear hm1 hm2 ha2 hb2
      go_upto_region 6 with fail
      obtain ⟨W5, hW⟩ : ∃ W5, W5 = wr.alloc (.cells #[.string ⟨a.toArray⟩, .string ⟨b.toArray⟩] 44) := ⟨_, rfl⟩
      have hA : At W5 wr.heap.size 44 #[.string ⟨a.toArray⟩, .string ⟨b.toArray⟩] := by rw [hW]; exact heap_alloc_new wr _
      have hBW : Below wr.heap.size wr W5 := by rw [hW]; exact (Below.refl _ _).alloc (Nat.le_refl _) _
      rw [← hW]
      obtain ⟨xb, hxb⟩ : ∃ x, x = wr.heap.size := ⟨_, rfl⟩
      rw [← hxb] at hA
      rw [← hxb]
      have hF5 := HF.out.below hBW
      have hown : ∀ r, vL.ownBlock = some r → r ≠ xb := fun r hr e => by
        obtain ⟨cur, hc⟩ := own_cells HF.out.vars hr
        have := (Array.getElem?_eq_some_iff.1 hc).1
        omega
      have y0 : W5.cell? ⟨xb, 0, none⟩ = some (.string ⟨a.toArray⟩) := by rw [hA.cell]; rfl
      have y1 : W5.cell? ⟨xb, 1, none⟩ = some (.string ⟨b.toArray⟩) := by rw [hA.cell]; rfl
      have z5 : W5.cell? ⟨w.heap.size + 1 + 1, 0, none⟩ = some vL := by rw [hF5.box.cell]; rfl
      have hxl := hA.lt
      have hbl := hF5.box.lt
      have hll := fewL_length l k (by omega)
      have HNE : Hid (w.heap.size + 1 + 1 ≠ xb) := hid (by have := HF.out.box.lt; omega)
      have HF5 := hid hF5
      have HX := hid (And.intro hA hown)
      clear hA hBW hW hxb hF5 hown s0 z0 x1 x2
      have hnw1 := World.news_of_block (cs := #[.string ⟨(a.take m1).toArray⟩, .string ⟨(b.take m2).toArray⟩]) (heap_alloc_new W5.drew (.cells #[.string ⟨(a.take m1).toArray⟩, .string ⟨(b.take m2).toArray⟩] 44))
      have HN1 := hid hnw1
      have hst := fun w3 v' => HF5.out.storeL (w3 := w3) (v' := v') (a.take m1, b.take m2) (w2 := W5.drew.alloc (.cells #[.string ⟨(a.take m1).toArray⟩, .string ⟨(b.take m2).toArray⟩] 44)) (((show Below W5.heap.size W5 W5.drew from ⟨rfl, rfl, rfl, Nat.le_refl _, fun _ _ => rfl⟩)).alloc (Nat.le_refl _) _)
      have HST := hid hst
      have hkeep := fun w3 (hg : (W5.drew.alloc (.cells #[.string ⟨(a.take m1).toArray⟩, .string ⟨(b.take m2).toArray⟩] 44)).grownBy w3 vL.ownBlock) => (show At w3 xb 44 #[.string ⟨a.toArray⟩, .string ⟨b.toArray⟩] from (hg.block xb (by simp; omega) (fun e => HX.out.2 xb e.symm rfl)).trans (At.alloc HX.out.1 _))
      have HKEEP := hid hkeep
      clear hnw1 hst hkeep
      have HS0 : Hid ((fun bb w' => w'.cell? ⟨xb, 0, none⟩ = some (.string ⟨a.toArray⟩) ∧ w'.cell? ⟨xb, 1, none⟩ = some (.string ⟨b.toArray⟩) ∧ (bb = false → w'.cell? ⟨w.heap.size + 1 + 1, 0, none⟩ = some vL)) false W5.drew) := hid ⟨y0, y1, fun _ => z5⟩
      clear y0 y1 z5
      refine wp_region_G 18 (fun bb w' => w'.cell? ⟨xb, 0, none⟩ = some (.string ⟨a.toArray⟩) ∧ w'.cell? ⟨xb, 1, none⟩ = some (.string ⟨b.toArray⟩) ∧ (bb = false → w'.cell? ⟨w.heap.size + 1 + 1, 0, none⟩ = some vL)) (by kernel_rfl) ?_
      refine wpAnyG_t 0 (some 27) false (fun w' => w'.cell? ⟨xb, 0, none⟩ = some (.string ⟨a.toArray⟩) ∧ w'.cell? ⟨xb, 1, none⟩ = some (.string ⟨b.toArray⟩)) (v := ?_) rfl rfl (by kernel_rfl) (fun _ _ _ h => h) (fun _ _ h => ⟨h.1, h.2.1⟩) HS0.out (Or.inl ⟨by rfl, ?_⟩) ?_
      rotate_left
      · intro w9 hSw
        go_simp
        first | done | with_reducible rfl
      simp only [Act.put, List.setIfInBounds_toArray, List.set_cons_zero, List.set_cons_succ]
      refine wpAnyG_tq 1 (some 28) (fun w' => w'.cell? ⟨w.heap.size + 1 + 1, 0, none⟩ = some vL) (v := ?_) rfl rfl (by kernel_rfl) (by kernel_rfl) (fun _ _ _ h => h) (fun _ h => h.2.2 rfl) HS0.out (Or.inl ⟨by rfl, ?_⟩) ?_
      rotate_left
      · intro w9 hSw
        go_simp
        first | done | with_reducible rfl
      simp only [Act.put, List.setIfInBounds_toArray, List.set_cons_zero, List.set_cons_succ]
      refine wpAnyG_t 2 (some 29) false (fun w' => w'.cell? ⟨xb, 0, none⟩ = some (.string ⟨a.toArray⟩) ∧ w'.cell? ⟨xb, 1, none⟩ = some (.string ⟨b.toArray⟩)) (v := ?_) rfl rfl (by kernel_rfl) (fun _ _ _ h => h) (fun _ _ h => ⟨h.1, h.2.1⟩) HS0.out (Or.inl ⟨by rfl, ?_⟩) ?_
      rotate_left
      · intro w9 hSw
        go_simp
        first | done | with_reducible rfl
      simp only [Act.put, List.setIfInBounds_toArray, List.set_cons_zero, List.set_cons_succ]
      refine wpAnyG_t 3 (some 30) false (fun w' => w'.cell? ⟨xb, 0, none⟩ = some (.string ⟨a.toArray⟩) ∧ w'.cell? ⟨xb, 1, none⟩ = some (.string ⟨b.toArray⟩)) (v := ?_) rfl rfl (by kernel_rfl) (fun _ _ _ h => h) (fun _ _ h => ⟨h.1, h.2.1⟩) HS0.out (Or.inl ⟨by rfl, ?_⟩) ?_
      rotate_left
      · intro w9 hSw
        go_simp
        first | done | with_reducible rfl
      simp only [Act.put, List.setIfInBounds_toArray, List.set_cons_zero, List.set_cons_succ]
      refine wpAnyG_t 4 (some 31) false (fun w' => w'.cell? ⟨xb, 0, none⟩ = some (.string ⟨a.toArray⟩) ∧ w'.cell? ⟨xb, 1, none⟩ = some (.string ⟨b.toArray⟩)) (v := ?_) rfl rfl (by kernel_rfl) (fun _ _ _ h => h) (fun _ _ h => ⟨h.1, h.2.1⟩) HS0.out (Or.inl ⟨by rfl, ?_⟩) ?_
      rotate_left
      · intro w9 hSw
        go_simp
        first | done | with_reducible rfl
      simp only [Act.put, List.setIfInBounds_toArray, List.set_cons_zero, List.set_cons_succ]
      refine wpAnyG_t 5 (some 32) false (fun w' => w'.cell? ⟨xb, 0, none⟩ = some (.string ⟨a.toArray⟩) ∧ w'.cell? ⟨xb, 1, none⟩ = some (.string ⟨b.toArray⟩)) (v := ?_) rfl rfl (by kernel_rfl) (fun _ _ _ h => h) (fun _ _ h => ⟨h.1, h.2.1⟩) HS0.out (Or.inl ⟨by rfl, ?_⟩) ?_
      rotate_left
      · intro w9 hSw
        go_simp
        first | done | with_reducible rfl
      simp only [Act.put, List.setIfInBounds_toArray, List.set_cons_zero, List.set_cons_succ]
      refine wpAnyG_t 6 (some 33) false (fun w' => w'.cell? ⟨xb, 0, none⟩ = some (.string ⟨a.toArray⟩) ∧ w'.cell? ⟨xb, 1, none⟩ = some (.string ⟨b.toArray⟩)) (v := ?_) rfl rfl (by kernel_rfl) (fun _ _ _ h => h) (fun _ _ h => ⟨h.1, h.2.1⟩) HS0.out (Or.inl ⟨by rfl, ?_⟩) ?_
      rotate_left
      · intro w9 hSw
        go_simp
        first | done | with_reducible rfl
      simp only [Act.put, List.setIfInBounds_toArray, List.set_cons_zero, List.set_cons_succ]
      refine wpAnyG_t 7 (some 34) false (fun w' => w'.cell? ⟨xb, 0, none⟩ = some (.string ⟨a.toArray⟩) ∧ w'.cell? ⟨xb, 1, none⟩ = some (.string ⟨b.toArray⟩)) (v := ?_) rfl rfl (by kernel_rfl) (fun _ _ _ h => h) (fun _ _ h => ⟨h.1, h.2.1⟩) HS0.out (Or.inl ⟨by rfl, ?_⟩) ?_
      rotate_left
      · intro w9 hSw
        go_simp
        first | done | with_reducible rfl
      simp only [Act.put, List.setIfInBounds_toArray, List.set_cons_zero, List.set_cons_succ]
      refine wpAnyG_t 8 (some 35) false (fun w' => w'.cell? ⟨xb, 0, none⟩ = some (.string ⟨a.toArray⟩) ∧ w'.cell? ⟨xb, 1, none⟩ = some (.string ⟨b.toArray⟩)) (v := ?_) rfl rfl (by kernel_rfl) (fun _ _ _ h => h) (fun _ _ h => ⟨h.1, h.2.1⟩) HS0.out (Or.inl ⟨by rfl, ?_⟩) ?_
      rotate_left
      · intro w9 hSw
        go_simp
        first | done | with_reducible rfl
      simp only [Act.put, List.setIfInBounds_toArray, List.set_cons_zero, List.set_cons_succ]
      refine wpAnyG_t 9 (some 36) false (fun w' => w'.cell? ⟨xb, 0, none⟩ = some (.string ⟨a.toArray⟩) ∧ w'.cell? ⟨xb, 1, none⟩ = some (.string ⟨b.toArray⟩)) (v := ?_) rfl rfl (by kernel_rfl) (fun _ _ _ h => h) (fun _ _ h => ⟨h.1, h.2.1⟩) HS0.out (Or.inl ⟨by rfl, ?_⟩) ?_
      rotate_left
      · intro w9 hSw
        go_simp
        first | done | with_reducible rfl
      simp only [Act.put, List.setIfInBounds_toArray, List.set_cons_zero, List.set_cons_succ]
      refine wpAnyG_t 10 (some 37) false (fun w' => w'.cell? ⟨xb, 0, none⟩ = some (.string ⟨a.toArray⟩) ∧ w'.cell? ⟨xb, 1, none⟩ = some (.string ⟨b.toArray⟩)) (v := ?_) rfl rfl (by kernel_rfl) (fun _ _ _ h => h) (fun _ _ h => ⟨h.1, h.2.1⟩) HS0.out (Or.inl ⟨by rfl, ?_⟩) ?_
      rotate_left
      · intro w9 hSw
        go_simp
        first | done | with_reducible rfl
      simp only [Act.put, List.setIfInBounds_toArray, List.set_cons_zero, List.set_cons_succ]
      refine wpAnyG_t 11 (some 38) false (fun w' => w'.cell? ⟨xb, 0, none⟩ = some (.string ⟨a.toArray⟩) ∧ w'.cell? ⟨xb, 1, none⟩ = some (.string ⟨b.toArray⟩)) (v := ?_) rfl rfl (by kernel_rfl) (fun _ _ _ h => h) (fun _ _ h => ⟨h.1, h.2.1⟩) HS0.out (Or.inl ⟨by rfl, ?_⟩) ?_
      rotate_left
      · intro w9 hSw
        go_simp
        first | done | with_reducible rfl
      simp only [Act.put, List.setIfInBounds_toArray, List.set_cons_zero, List.set_cons_succ]
      refine wpAnyG_t 12 (some 39) false (fun w' => w'.cell? ⟨xb, 0, none⟩ = some (.string ⟨a.toArray⟩) ∧ w'.cell? ⟨xb, 1, none⟩ = some (.string ⟨b.toArray⟩)) (v := ?_) rfl rfl (by kernel_rfl) (fun _ _ _ h => h) (fun _ _ h => ⟨h.1, h.2.1⟩) HS0.out (Or.inl ⟨by rfl, ?_⟩) ?_
      rotate_left
      · intro w9 hSw
        go_simp
        first | done | with_reducible rfl
      simp only [Act.put, List.setIfInBounds_toArray, List.set_cons_zero, List.set_cons_succ]
      refine wpAnyG_t 13 (some 40) false (fun w' => w'.cell? ⟨xb, 0, none⟩ = some (.string ⟨a.toArray⟩) ∧ w'.cell? ⟨xb, 1, none⟩ = some (.string ⟨b.toArray⟩)) (v := ?_) rfl rfl (by kernel_rfl) (fun _ _ _ h => h) (fun _ _ h => ⟨h.1, h.2.1⟩) HS0.out (Or.inl ⟨by rfl, ?_⟩) ?_
      rotate_left
      · intro w9 hSw
        go_simp
        first | done | with_reducible rfl
      simp only [Act.put, List.setIfInBounds_toArray, List.set_cons_zero, List.set_cons_succ]
      refine wpAnyG_t 14 (some 41) false (fun w' => w'.cell? ⟨xb, 0, none⟩ = some (.string ⟨a.toArray⟩) ∧ w'.cell? ⟨xb, 1, none⟩ = some (.string ⟨b.toArray⟩)) (v := ?_) rfl rfl (by kernel_rfl) (fun _ _ _ h => h) (fun _ _ h => ⟨h.1, h.2.1⟩) HS0.out (Or.inl ⟨by rfl, ?_⟩) ?_
      rotate_left
      · intro w9 hSw
        go_simp
        first | done | with_reducible rfl
      simp only [Act.put, List.setIfInBounds_toArray, List.set_cons_zero, List.set_cons_succ]
      refine wpAnyG_t 15 (some 42) false (fun w' => w'.cell? ⟨xb, 0, none⟩ = some (.string ⟨a.toArray⟩) ∧ w'.cell? ⟨xb, 1, none⟩ = some (.string ⟨b.toArray⟩)) (v := ?_) rfl rfl (by kernel_rfl) (fun _ _ _ h => h) (fun _ _ h => ⟨h.1, h.2.1⟩) HS0.out (Or.inl ⟨by rfl, ?_⟩) ?_
      rotate_left
      · intro w9 hSw
        go_simp
        first | done | with_reducible rfl
      simp only [Act.put, List.setIfInBounds_toArray, List.set_cons_zero, List.set_cons_succ]
      refine wpAnyG_t 16 (some 43) false (fun w' => w'.cell? ⟨xb, 0, none⟩ = some (.string ⟨a.toArray⟩) ∧ w'.cell? ⟨xb, 1, none⟩ = some (.string ⟨b.toArray⟩)) (v := ?_) rfl rfl (by kernel_rfl) (fun _ _ _ h => h) (fun _ _ h => ⟨h.1, h.2.1⟩) HS0.out (Or.inl ⟨by rfl, ?_⟩) ?_
      rotate_left
      · intro w9 hSw
        go_simp
        first | done | with_reducible rfl
      simp only [Act.put, List.setIfInBounds_toArray, List.set_cons_zero, List.set_cons_succ]
      refine wpAnyG_o 17 false rfl (by kernel_rfl) (by kernel_rfl) (fun K17 hK17 => ?_)
      go_simp
      refine hK17.out _ _ ⟨cell_alloc HS0.out.1 _, cell_alloc HS0.out.2.1 _, fun e => cell_alloc (HS0.out.2.2 e) _⟩ ?_
      clear hK17 K17
      refine wpAnyG_o 18 true rfl (by kernel_rfl) (by kernel_rfl) (fun K18 hK18 => ?_)
      refine step_append_at (w.heap.size + 3) 44 i44 (.agg #[.string ⟨#[]⟩, .string ⟨#[]⟩]) 2 32 Tryd.underlying23 hj hy0 hy1 hy2 (by rfl) (by decide) vL (fewL l k).length (vrv (fewL l k)) (by rfl) (by exact own_alloc (w := W5.drew) HF5.out.vars _) ⟨W5.heap.size, 0, none⟩ 1 1 [.string ⟨(a.take m1).toArray⟩, .string ⟨(b.take m2).toArray⟩] (by rfl) (by rfl) (by exact HN1.out) (by simp [Value.oneCell']) (by unfold maxLen; omega) (by omega) (by simp; omega) ?_
      intro vL' w3 hown' hgrow hat'
      obtain ⟨A', c', rfl, d1, d3, HG⟩ := HST.out w3 vL' hown' hgrow
      have q0 : w3.cell? ⟨xb, 0, none⟩ = some (.string ⟨a.toArray⟩) := ((HKEEP.out w3 hgrow).cell 0).trans rfl
      have q1 : w3.cell? ⟨xb, 1, none⟩ = some (.string ⟨b.toArray⟩) := ((HKEEP.out w3 hgrow).cell 1).trans rfl
      have HS1 := hid (And.intro q0 q1)
      have hxne : (⟨w.heap.size + 1 + 1, 0, none⟩ : Addr).block ≠ xb := HNE.out
      refine hK18.out _ _ ⟨q0, q1, fun e => by cases e⟩ ?_
      clear hK18 K18 q0 q1
      refine wpAnyG_o 19 true rfl (by kernel_rfl) (by kernel_rfl) (fun K19 hK19 => ?_)
      go_simp
      refine hK19.out _ _ ⟨HS1.out.1, HS1.out.2, fun e => by cases e⟩ ?_
      clear hK19 K19
      refine wpAnyG_o 20 true rfl (by kernel_rfl) (by kernel_rfl) (fun K20 hK20 => ?_)
      go_simp
      refine hK20.out _ _ ⟨(World.cell?_setCell_far _ _ _ _ hxne).trans HS1.out.1, (World.cell?_setCell_far _ _ _ _ hxne).trans HS1.out.2, fun e => by cases e⟩ ?_
      clear hK20 K20 hxne
      refine wpAnyG_done (by kernel_rfl) ?_ _
      have HG2 : Hid (FI w (w3.setCell ⟨w.heap.size + 1 + 1, 0, none⟩ (.slice A' (k + 1) c')) src (st.tmod 1000) (fewL l (k + 1)) [] (.slice A' (k + 1) c') (.slice none 0 0)) := by
        have h := HG.out
        rw [hll, HAB.out.1, HAB.out.2, HA.out, HB.out, ← fewL_succ l k hkl] at h
        exact hid h
      clear hown' hgrow hat' d1 d3 HG
      go_wp2_with fail
      go_roundg (gk - 1)
      case measure =>
        go_light
        have := HM.out
        omega
      case rel =>
        go_light
        exact ⟨k + 1, _, by have := HM.out; omega, int_cast (by omega), HG2⟩
    · have hke : k = K1 := by have := HM.out; omega
      subst hke
      have hkf : (¬ (k : Int) < (l.length : Int)) ∨ ((k : Int) < (l.length : Int) ∧ ¬ (k : Int) < 12) := by have := HK.out.1; omega
      clear hk
      have HF1 := HF
      clear HF
      rcases hkf with hkf | ⟨hkf, hkf2⟩
      all_goals
        go_wp2_with fail
        clear s0 z0
        go_loopg [6] K2 (fun m v6 wr => ∃ (k2 : Nat) (vA : Value), m + k2 = K2 ∧ v6 = .int .i64 k2 ∧ Hid (FI w wr src (st.tmod 1000) (fewL l k) (fewA al k2) vL vA))
        case atStart => exact ⟨0, _, by omega, rfl, HF1⟩
        case round =>
          obtain ⟨k2, vA, hm, rfl, HF⟩ := hrel
          have HM2 := hid hm
          clear hm
          have hs := HF.out.src
          rw [HSRC.out] at hs
          have s1 : wr.cell? ⟨w.heap.size, 1, none⟩ = some (.slice A2 al.length c2) := by rw [hs.cell]; rfl
          have z1 : wr.cell? ⟨w.heap.size + 1 + 1, 1, none⟩ = some vA := by rw [HF.out.box.cell]; rfl
          clear hs
          by_cases hk2 : k2 < K2
          · have hk8 : (k2 : Int) < 12 := by have := HK.out.2; omega
            have hkl : k2 < al.length := by have := HK.out.2; omega
            have hklI : (k2 : Int) < (al.length : Int) := by omega
            obtain ⟨b2, off2, hA2, hl2, hc2⟩ := H2.out.2 (by omega)
            subst hA2
            have x1 := cell_blw (hc2 _ _ (txv_get al k2 hkl)) HF.out.bel
            obtain ⟨a, ha⟩ : ∃ a, a = al.getD k2 [] := ⟨_, rfl⟩
            rw [← ha] at x1
            have HA := hid ha
            have hcw := hc2
            clear hl2 hc2 ha
            obtain ⟨m1, hm1⟩ : ∃ m, m = min a.length 60 := ⟨_, rfl⟩
            have f1 : min (a.length : Int) 60 = (m1 : Int) := by omega
            have f2 : (m1 : Int) ≤ (a.length : Int) := by omega
            have ha2 : a.take m1 = cut60 a := cut_min a m1 60 hm1
            have HAB := hid ha2
            clear hm1 ha2
            go_upto_region 10 with fail
            have HS0 : Hid ((fun bb w' => w'.cell? ⟨w.heap.size, 1, none⟩ = some (.slice (some ⟨b2, off2, none⟩) al.length c2) ∧ w'.cell? ⟨b2, off2 + k2, none⟩ = some (.string ⟨a.toArray⟩) ∧ (bb = false → w'.cell? ⟨w.heap.size + 1 + 1, 1, none⟩ = some vA)) false wr.drew) := hid ⟨s1, x1, fun _ => z1⟩
            have hbx : b2 < w.heap.size := World.block_lt_of_cell? w ⟨b2, off2 + k2, none⟩ (hcw k2 _ (txv_get al k2 hkl))
            have HBX := hid hbx
            have hll := fewA_length al k2 (by omega)
            have hsz : w.heap.size + 3 ≤ wr.heap.size := by have := HF.out.box.lt; omega
            have hnw1 := World.news_of_block (cs := #[.string ⟨(a.take m1).toArray⟩]) (heap_alloc_new wr.drew (.cells #[.string ⟨(a.take m1).toArray⟩] 9))
            have HN1 := hid hnw1
            have hst := fun w3 v' => HF.out.storeA (w3 := w3) (v' := v') (a.take m1) (w2 := wr.drew.alloc (.cells #[.string ⟨(a.take m1).toArray⟩] 9)) ((show Below wr.heap.size wr wr.drew from ⟨rfl, rfl, rfl, Nat.le_refl _, fun _ _ => rfl⟩).alloc (Nat.le_refl _) _)
            have HST := hid hst
            have hkeep := fun w3 (hg : (wr.drew.alloc (.cells #[.string ⟨(a.take m1).toArray⟩] 9)).grownBy w3 vA.ownBlock) => few_keep HF.out hg
            have HKEEP := hid hkeep
            clear hnw1 hst hkeep hbx s1 x1 z1 hcw
            refine wp_region_G 16 (fun bb w' => w'.cell? ⟨w.heap.size, 1, none⟩ = some (.slice (some ⟨b2, off2, none⟩) al.length c2) ∧ w'.cell? ⟨b2, off2 + k2, none⟩ = some (.string ⟨a.toArray⟩) ∧ (bb = false → w'.cell? ⟨w.heap.size + 1 + 1, 1, none⟩ = some vA)) (by kernel_rfl) ?_
            refine wpAnyG_t 0 (some 58) false (fun w' => w'.cell? ⟨w.heap.size, 1, none⟩ = some (.slice (some ⟨b2, off2, none⟩) al.length c2) ∧ w'.cell? ⟨b2, off2 + k2, none⟩ = some (.string ⟨a.toArray⟩)) (v := ?_) rfl rfl (by kernel_rfl) (fun _ _ _ h => h) (fun _ _ h => ⟨h.1, h.2.1⟩) HS0.out (Or.inl ⟨by rfl, ?_⟩) ?_
            rotate_left
            · intro w9 hSw
              go_simp
              first | done | with_reducible rfl
            simp only [Act.put, List.setIfInBounds_toArray, List.set_cons_zero, List.set_cons_succ]
            refine wpAnyG_tq 1 (some 59) (fun w' => w'.cell? ⟨w.heap.size + 1 + 1, 1, none⟩ = some vA) (v := ?_) rfl rfl (by kernel_rfl) (by kernel_rfl) (fun _ _ _ h => h) (fun _ h => h.2.2 rfl) HS0.out (Or.inl ⟨by rfl, ?_⟩) ?_
            rotate_left
            · intro w9 hSw
              go_simp
              first | done | with_reducible rfl
            simp only [Act.put, List.setIfInBounds_toArray, List.set_cons_zero, List.set_cons_succ]
            refine wpAnyG_t 2 (some 60) false (fun w' => w'.cell? ⟨w.heap.size, 1, none⟩ = some (.slice (some ⟨b2, off2, none⟩) al.length c2) ∧ w'.cell? ⟨b2, off2 + k2, none⟩ = some (.string ⟨a.toArray⟩)) (v := ?_) rfl rfl (by kernel_rfl) (fun _ _ _ h => h) (fun _ _ h => ⟨h.1, h.2.1⟩) HS0.out (Or.inl ⟨by rfl, ?_⟩) ?_
            rotate_left
            · intro w9 hSw
              go_simp
              first | done | with_reducible rfl
            simp only [Act.put, List.setIfInBounds_toArray, List.set_cons_zero, List.set_cons_succ]
            refine wpAnyG_t 3 (some 61) false (fun w' => w'.cell? ⟨w.heap.size, 1, none⟩ = some (.slice (some ⟨b2, off2, none⟩) al.length c2) ∧ w'.cell? ⟨b2, off2 + k2, none⟩ = some (.string ⟨a.toArray⟩)) (v := ?_) rfl rfl (by kernel_rfl) (fun _ _ _ h => h) (fun _ _ h => ⟨h.1, h.2.1⟩) HS0.out (Or.inl ⟨by rfl, ?_⟩) ?_
            rotate_left
            · intro w9 hSw
              go_simp
              first | done | with_reducible rfl
            simp only [Act.put, List.setIfInBounds_toArray, List.set_cons_zero, List.set_cons_succ]
            refine wpAnyG_t 4 (some 62) false (fun w' => w'.cell? ⟨w.heap.size, 1, none⟩ = some (.slice (some ⟨b2, off2, none⟩) al.length c2) ∧ w'.cell? ⟨b2, off2 + k2, none⟩ = some (.string ⟨a.toArray⟩)) (v := ?_) rfl rfl (by kernel_rfl) (fun _ _ _ h => h) (fun _ _ h => ⟨h.1, h.2.1⟩) HS0.out (Or.inl ⟨by rfl, ?_⟩) ?_
            rotate_left
            · intro w9 hSw
              go_simp
              first | done | with_reducible rfl
            simp only [Act.put, List.setIfInBounds_toArray, List.set_cons_zero, List.set_cons_succ]
            refine wpAnyG_t 5 (some 63) false (fun w' => w'.cell? ⟨w.heap.size, 1, none⟩ = some (.slice (some ⟨b2, off2, none⟩) al.length c2) ∧ w'.cell? ⟨b2, off2 + k2, none⟩ = some (.string ⟨a.toArray⟩)) (v := ?_) rfl rfl (by kernel_rfl) (fun _ _ _ h => h) (fun _ _ h => ⟨h.1, h.2.1⟩) HS0.out (Or.inl ⟨by rfl, ?_⟩) ?_
            rotate_left
            · intro w9 hSw
              go_simp
              first | done | with_reducible rfl
            simp only [Act.put, List.setIfInBounds_toArray, List.set_cons_zero, List.set_cons_succ]
            refine wpAnyG_t 6 (some 64) false (fun w' => w'.cell? ⟨w.heap.size, 1, none⟩ = some (.slice (some ⟨b2, off2, none⟩) al.length c2) ∧ w'.cell? ⟨b2, off2 + k2, none⟩ = some (.string ⟨a.toArray⟩)) (v := ?_) rfl rfl (by kernel_rfl) (fun _ _ _ h => h) (fun _ _ h => ⟨h.1, h.2.1⟩) HS0.out (Or.inl ⟨by rfl, ?_⟩) ?_
            rotate_left
            · intro w9 hSw
              go_simp
              first | done | with_reducible rfl
            simp only [Act.put, List.setIfInBounds_toArray, List.set_cons_zero, List.set_cons_succ]
            refine wpAnyG_t 7 (some 65) false (fun w' => w'.cell? ⟨w.heap.size, 1, none⟩ = some (.slice (some ⟨b2, off2, none⟩) al.length c2) ∧ w'.cell? ⟨b2, off2 + k2, none⟩ = some (.string ⟨a.toArray⟩)) (v := ?_) rfl rfl (by kernel_rfl) (fun _ _ _ h => h) (fun _ _ h => ⟨h.1, h.2.1⟩) HS0.out (Or.inl ⟨by rfl, ?_⟩) ?_
            rotate_left
            · intro w9 hSw
              go_simp
              first | done | with_reducible rfl
            simp only [Act.put, List.setIfInBounds_toArray, List.set_cons_zero, List.set_cons_succ]
            refine wpAnyG_t 8 (some 66) false (fun w' => w'.cell? ⟨w.heap.size, 1, none⟩ = some (.slice (some ⟨b2, off2, none⟩) al.length c2) ∧ w'.cell? ⟨b2, off2 + k2, none⟩ = some (.string ⟨a.toArray⟩)) (v := ?_) rfl rfl (by kernel_rfl) (fun _ _ _ h => h) (fun _ _ h => ⟨h.1, h.2.1⟩) HS0.out (Or.inl ⟨by rfl, ?_⟩) ?_
            rotate_left
            · intro w9 hSw
              go_simp
              first | done | with_reducible rfl
            simp only [Act.put, List.setIfInBounds_toArray, List.set_cons_zero, List.set_cons_succ]
            refine wpAnyG_t 9 (some 67) false (fun w' => w'.cell? ⟨w.heap.size, 1, none⟩ = some (.slice (some ⟨b2, off2, none⟩) al.length c2) ∧ w'.cell? ⟨b2, off2 + k2, none⟩ = some (.string ⟨a.toArray⟩)) (v := ?_) rfl rfl (by kernel_rfl) (fun _ _ _ h => h) (fun _ _ h => ⟨h.1, h.2.1⟩) HS0.out (Or.inl ⟨by rfl, ?_⟩) ?_
            rotate_left
            · intro w9 hSw
              go_simp
              first | done | with_reducible rfl
            simp only [Act.put, List.setIfInBounds_toArray, List.set_cons_zero, List.set_cons_succ]
            refine wpAnyG_t 10 (some 68) false (fun w' => w'.cell? ⟨w.heap.size, 1, none⟩ = some (.slice (some ⟨b2, off2, none⟩) al.length c2) ∧ w'.cell? ⟨b2, off2 + k2, none⟩ = some (.string ⟨a.toArray⟩)) (v := ?_) rfl rfl (by kernel_rfl) (fun _ _ _ h => h) (fun _ _ h => ⟨h.1, h.2.1⟩) HS0.out (Or.inl ⟨by rfl, ?_⟩) ?_
            rotate_left
            · intro w9 hSw
              go_simp
              first | done | with_reducible rfl
            simp only [Act.put, List.setIfInBounds_toArray, List.set_cons_zero, List.set_cons_succ]
            refine wpAnyG_t 11 (some 69) false (fun w' => w'.cell? ⟨w.heap.size, 1, none⟩ = some (.slice (some ⟨b2, off2, none⟩) al.length c2) ∧ w'.cell? ⟨b2, off2 + k2, none⟩ = some (.string ⟨a.toArray⟩)) (v := ?_) rfl rfl (by kernel_rfl) (fun _ _ _ h => h) (fun _ _ h => ⟨h.1, h.2.1⟩) HS0.out (Or.inl ⟨by rfl, ?_⟩) ?_
            rotate_left
            · intro w9 hSw
              go_simp
              first | done | with_reducible rfl
            simp only [Act.put, List.setIfInBounds_toArray, List.set_cons_zero, List.set_cons_succ]
            refine wpAnyG_t 12 (some 70) false (fun w' => w'.cell? ⟨w.heap.size, 1, none⟩ = some (.slice (some ⟨b2, off2, none⟩) al.length c2) ∧ w'.cell? ⟨b2, off2 + k2, none⟩ = some (.string ⟨a.toArray⟩)) (v := ?_) rfl rfl (by kernel_rfl) (fun _ _ _ h => h) (fun _ _ h => ⟨h.1, h.2.1⟩) HS0.out (Or.inl ⟨by rfl, ?_⟩) ?_
            rotate_left
            · intro w9 hSw
              go_simp
              first | done | with_reducible rfl
            simp only [Act.put, List.setIfInBounds_toArray, List.set_cons_zero, List.set_cons_succ]
            refine wpAnyG_t 13 (some 71) false (fun w' => w'.cell? ⟨w.heap.size, 1, none⟩ = some (.slice (some ⟨b2, off2, none⟩) al.length c2) ∧ w'.cell? ⟨b2, off2 + k2, none⟩ = some (.string ⟨a.toArray⟩)) (v := ?_) rfl rfl (by kernel_rfl) (fun _ _ _ h => h) (fun _ _ h => ⟨h.1, h.2.1⟩) HS0.out (Or.inl ⟨by rfl, ?_⟩) ?_
            rotate_left
            · intro w9 hSw
              go_simp
              first | done | with_reducible rfl
            simp only [Act.put, List.setIfInBounds_toArray, List.set_cons_zero, List.set_cons_succ]
            refine wpAnyG_t 14 (some 72) false (fun w' => w'.cell? ⟨w.heap.size, 1, none⟩ = some (.slice (some ⟨b2, off2, none⟩) al.length c2) ∧ w'.cell? ⟨b2, off2 + k2, none⟩ = some (.string ⟨a.toArray⟩)) (v := ?_) rfl rfl (by kernel_rfl) (fun _ _ _ h => h) (fun _ _ h => ⟨h.1, h.2.1⟩) HS0.out (Or.inl ⟨by rfl, ?_⟩) ?_
            rotate_left
            · intro w9 hSw
              go_simp
              first | done | with_reducible rfl
            simp only [Act.put, List.setIfInBounds_toArray, List.set_cons_zero, List.set_cons_succ]
            refine wpAnyG_o 15 false rfl (by kernel_rfl) (by kernel_rfl) (fun K17 hK17 => ?_)
            go_simp
            refine hK17.out _ _ ⟨cell_alloc HS0.out.1 _, cell_alloc HS0.out.2.1 _, fun e => cell_alloc (HS0.out.2.2 e) _⟩ ?_
            clear hK17 K17
            refine wpAnyG_o 16 true rfl (by kernel_rfl) (by kernel_rfl) (fun K18 hK18 => ?_)
            refine step_append_at (w.heap.size + 3) 9 i9 (.string ⟨#[]⟩) 1 16 Tryd.underlying24 hi hz0 hz1 hz2 (by rfl) (by decide) vA (fewA al k2).length (txv (fewA al k2)) (by rfl) (by exact own_alloc (w := wr.drew) HF.out.args _) ⟨wr.heap.size, 0, none⟩ 1 1 [.string ⟨(a.take m1).toArray⟩] (by rfl) (by rfl) (by exact HN1.out) (by simp [Value.oneCell']) (by unfold maxLen; omega) (by omega) (by simp; omega) ?_
            intro vL' w3 hown' hgrow hat'
            obtain ⟨A', c', rfl, d1, d3, HG⟩ := HST.out w3 vL' hown' hgrow
            have q0 : w3.cell? ⟨w.heap.size, 1, none⟩ = some (.slice (some ⟨b2, off2, none⟩) al.length c2) := HKEEP.out w3 hgrow _ _ (by simp) (cell_alloc HS0.out.1 _)
            have q1 : w3.cell? ⟨b2, off2 + k2, none⟩ = some (.string ⟨a.toArray⟩) := HKEEP.out w3 hgrow _ _ (by have := HBX.out; simp; omega) (cell_alloc HS0.out.2.1 _)
            have HS1 := hid (And.intro q0 q1)
            have e1 : (⟨w.heap.size + 1 + 1, 1, none⟩ : Addr).block ≠ w.heap.size := by simp; omega
            have e2 : (⟨w.heap.size + 1 + 1, 1, none⟩ : Addr).block ≠ b2 := by have := HBX.out; simp; omega
            have HE := hid (And.intro e1 e2)
            refine hK18.out _ _ ⟨q0, q1, fun e => by cases e⟩ ?_
            clear hK18 K18 q0 q1 e1 e2
            refine wpAnyG_o 17 true rfl (by kernel_rfl) (by kernel_rfl) (fun K19 hK19 => ?_)
            go_simp
            refine hK19.out _ _ ⟨HS1.out.1, HS1.out.2, fun e => by cases e⟩ ?_
            clear hK19 K19
            refine wpAnyG_o 18 true rfl (by kernel_rfl) (by kernel_rfl) (fun K20 hK20 => ?_)
            go_simp
            refine hK20.out _ _ ⟨(World.cell?_setCell_far _ _ _ _ HE.out.1).trans HS1.out.1, (World.cell?_setCell_far _ _ _ _ HE.out.2).trans HS1.out.2, fun e => by cases e⟩ ?_
            clear hK20 K20
            refine wpAnyG_done (by kernel_rfl) ?_ _
            have HG2 : Hid (FI w (w3.setCell ⟨w.heap.size + 1 + 1, 1, none⟩ (.slice A' (k2 + 1) c')) src (st.tmod 1000) (fewL l k) (fewA al (k2 + 1)) vL (.slice A' (k2 + 1) c')) := by
              have h := HG.out
              rw [hll, HAB.out, HA.out, ← fewA_succ al k2 hkl] at h
              exact hid h
            clear hown' hgrow hat' d1 d3 HG
            go_wp2_with fail
            go_roundg (gk - 1)
            case measure =>
              go_light
              have := HM2.out
              omega
            case rel =>
              go_light
              exact ⟨k2 + 1, _, by have := HM2.out; omega, int_cast (by omega), HG2⟩
          · have hke : k2 = K2 := by have := HM2.out; omega
            subst hke
            have hkg : (¬ (k2 : Int) < (al.length : Int)) ∨ ((k2 : Int) < (al.length : Int) ∧ ¬ (k2 : Int) < 12) := by have := HK.out.2; omega
            clear hk2
            obtain ⟨AL, cL, hvL, _, _⟩ := own_form HF.out.vars
            obtain ⟨AA, cA, hvA, _, _⟩ := own_form HF.out.args
            subst hvL hvA
            have z0 : wr.cell? ⟨w.heap.size + 1 + 1, 0, none⟩ = some (.slice AL (fewL l k).length cL) := by rw [HF.out.box.cell]; rfl
            have z2 : wr.cell? ⟨w.heap.size + 1 + 1, 2, none⟩ = some (.int .i64 (st.tmod 1000)) := by rw [HF.out.box.cell]; rfl
            have HFIN : Hid (∀ W2, At W2 (w.heap.size + 1) 26 #[.slice AL (fewL l k).length cL, .slice AA (fewA al k2).length cA, .int .i64 (st.tmod 1000)] → Kw (fun g t => g = w.heap.size + 1 ∧ t = 26) wr W2 → FewAt w.heap.size W2 (.agg #[.slice AL (fewL l k).length cL, .slice AA (fewA al k2).length cA, .int .i64 (st.tmod 1000)]) (fewL l 12) (fewA al 12) (st.tmod 1000) ∧ Below w.heap.size w W2) := by
              refine hid fun W2 _ hk => ⟨⟨_, _, rfl, ?_, ?_⟩, HF.out.bel.trans (hk.toBelow HF.out.bel.size fun g t hh => by omega)⟩
              · rw [← fewL_min l k HK.out.1]
                exact own_base (own_kw HF.out.vars hk fun r _ hh => absurd hh.2 (by decide)) fun r hr => by have := fown_above HF.out.vars hr; omega
              · rw [← fewA_min al k2 HK.out.2]
                exact own_base (own_kw HF.out.args hk fun r _ hh => absurd hh.2 (by decide)) fun r hr => by have := fown_above HF.out.args hr; omega
            obtain ⟨h3, hk3⟩ := few_res HF.out.res (.slice AL (fewL l k).length cL) (.slice AA (fewA al k2).length cA) (.int .i64 (st.tmod 1000))
            have hr := HF.out.res
            have h1 := hr.set 0 (.slice AL (fewL l k).length cL)
            have h2 := h1.set 1 (.slice AA (fewA al k2).length cA)
            have r0 : wr.cell? ⟨w.heap.size + 1, 0, none⟩ = some (.slice none 0 0) := by rw [hr.cell]; rfl
            have r1 : (wr.setCell ⟨w.heap.size + 1, 0, none⟩ (.slice AL (fewL l k).length cL)).cell? ⟨w.heap.size + 1, 1, none⟩ = some (.slice none 0 0) := by rw [h1.cell]; rfl
            have r2 : ((wr.setCell ⟨w.heap.size + 1, 0, none⟩ (.slice AL (fewL l k).length cL)).setCell ⟨w.heap.size + 1, 1, none⟩ (.slice AA (fewA al k2).length cA)).cell? ⟨w.heap.size + 1, 2, none⟩ = some (.int .i64 0) := by rw [h2.cell]; rfl
            have g0 := hr.frozen 0
            have g1 := h1.frozen 1
            have g2 := h2.frozen 2
            have H3 := hid h3
            have HK3 := hid hk3
            clear h1 h2 h3 hk3 hr
            rcases hkg with hkg | ⟨hkg, hkg2⟩
            all_goals
              go_wp2_with fail
              have h3 := H3.out
              have hfin := HFIN.out _ h3 HK3.out
              have e0 := (h3.cell 0).trans (show _ = some (.slice AL (fewL l k).length cL) from rfl)
              have e1 := (h3.cell 1).trans (show _ = some (.slice AA (fewA al k2).length cA) from rfl)
              have e2 := (h3.cell 2).trans (show _ = some (.int .i64 (st.tmod 1000)) from rfl)
              have HX := hid hfin
              clear r0 r1 r2 g0 g1 g2 h3 hfin
              simp [bodyPost, results, go_sem, e0, e1, e2]
              exact HX.out
end Go.Proofs.YtklihdlfbhgpeaaDoor
