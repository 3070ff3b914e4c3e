/-
  The walk of said: what a word comes to, as a text.
-/
import Derived.Test.YtklihdlfbhgpeaaDoorE19
namespace Go.Proofs.YtklihdlfbhgpeaaDoor
open Go.RowKit
set_option linter.unusedVariables false

def saidR (r : RunV) : Str := if r.q = true then [39] ++ r.t ++ [39] else if r.s = true then [40] ++ r.t ++ [41] else r.t
def saidG (g : List RunV) : Str := [91] ++ g.flatMap saidR ++ [93]
def saidF (F : Flds) : Str := F.flatMap saidG
def saidO (o : Out) : Str := if o.e = 0 then saidF o.F else [33, UInt8.ofNat (97 + o.e.toNat)]
theorem saidR_len (r : RunV) : (saidR r).length ≤ r.t.length + 2 := by
  unfold saidR
  cases r.q <;> cases r.s <;> simp
theorem saidRs_len : ∀ g : List RunV, (g.flatMap saidR).length ≤ 2 * wtR g
  | [] => by simp
  | r :: g => by
    have h1 := saidR_len r
    have h2 := saidRs_len g
    simp only [List.flatMap_cons, List.length_append, wtR, List.map_cons, List.sum_cons] at h2 ⊢
    omega
theorem saidF_len : ∀ F : Flds, (saidF F).length ≤ 2 * wtF F
  | [] => by simp [saidF]
  | g :: F => by
    have h1 := saidRs_len g
    have h2 := saidF_len F
    rw [wtF_cons]
    simp only [saidF, List.flatMap_cons, List.length_append, saidG, List.length_singleton] at h2 ⊢
    omega
/-- The errors' numbers. -/
theorem evalPart_e (rec : List PartV → EnvV → Out) (d : Bool) (p : PartV) (σ : EnvV) (hr : ∀ σ', 0 ≤ (rec p.word σ').e ∧ (rec p.word σ').e ≤ 14) : 0 ≤ (evalPart rec d p σ).e ∧ (evalPart rec d p σ).e ≤ 14 := by
  unfold evalPart
  split
  · simp
  split
  · simp
  split
  · unfold paramV
    split
    · simp
    · rename_i k _
      have h1 := hr (σ.say (askS p.text))
      cases k <;> simp only [doV, plainV, sizeV, assignV, trimOut, tellV]
      · split <;> simp
      · simp
      · split <;> simp [h1]
      · split <;> simp [h1]
      · split
        · split
          · split
            · split <;> simp
            · simp
          · simp [h1]
        · simp
      · split <;> simp
      · split <;> simp [h1]
  split
  · unfold substV
    split
    · simp [tellV]
    · split <;> simp [tellV]
  · simp
theorem evalL_e (rec : List PartV → EnvV → Out) (d : Bool) (hr : ∀ ps σ', 0 ≤ (rec ps σ').e ∧ (rec ps σ').e ≤ 14) : ∀ (ps : List PartV) (F : Flds) (σ : EnvV), 0 ≤ (evalL rec d ps F σ).e ∧ (evalL rec d ps F σ).e ≤ 14
  | [], F, σ => by simp [evalL]
  | p :: ps, F, σ => by
    have h1 := evalPart_e rec d p σ (hr p.word)
    simp only [evalL]
    split
    · exact evalL_e rec d hr ps _ _
    · exact h1
theorem evalW_e : ∀ (n : Nat) (ps : List PartV) (σ : EnvV), 0 ≤ (evalW n ps σ).e ∧ (evalW n ps σ).e ≤ 14
  | 0, _, _ => by simp [evalW]
  | n + 1, ps, σ => evalL_e (evalW n) _ (evalW_e n) ps [[]] σ
theorem wtF_take (F : Flds) (i : Nat) : wtF (F.take i) ≤ wtF F := by
  have : wtF F = wtF (F.take i) + wtF (F.drop i) := by rw [← wtF_append, List.take_append_drop]
  omega
theorem wtR_take (g : List RunV) (i : Nat) : wtR (g.take i) ≤ wtR g := by
  have : wtR g = wtR (g.take i) + wtR (g.drop i) := by rw [← wtR_append, List.take_append_drop]
  omega
theorem wtR_getD (F : Flds) (i : Nat) (h : i < F.length) : wtF (F.take i) + 1 + wtR (F.getD i []) ≤ wtF F := by
  have e := getD_succ F [] h
  have h1 := wtF_take F (i + 1)
  rw [e, wtF_append, wtF_cons] at h1
  simp only [wtF, List.map_nil, List.sum_nil] at h1 ⊢
  omega
theorem run_wtR (g : List RunV) (k : Nat) (h : k < g.length) : wtR (g.take k) + 1 + (g.getD k run0).t.length ≤ wtR g := by
  have e := getD_succ g run0 h
  have h1 := wtR_take g (k + 1)
  rw [e, wtR_append] at h1
  simp only [wtR, List.map_cons, List.map_nil, List.sum_cons, List.sum_nil] at h1 ⊢
  omega
theorem saidF_snoc (F : Flds) (g : List RunV) : saidF (F ++ [g]) = saidF F ++ saidG g := by simp [saidF]
theorem envAt_made {w w2 : World} {B : Nat} {vL : Value} {AA : Option Addr} {cA : Nat} {σ : EnvV} {Eb : Nat} (hB : B ≤ w.heap.size) (h0 : σ.seen = []) (hL : w.ownsRow 0 44 2 vL σ.vars.length (vrv σ.vars)) (hG : Grows (fun k => B ≤ k) vL σ.vars.length)
    (hA : TR w 9 1 AA σ.args.length (txv σ.args)) (hb : Below w.heap.size w w2) (hE : B ≤ Eb) (hAt : At w2 Eb 31 #[vL, .slice AA σ.args.length cA, .int .i64 σ.status, .slice none 0 0]) : EnvAt w2 (fun k => B ≤ k) Eb σ := by
  refine ⟨fun k hk => Nat.le_trans hB (Nat.le_trans hb.size hk), hE, vL, AA, cA, .slice none 0 0, hAt, own_kw hL (Kw.below (M := fun _ _ => False) hb) fun _ _ h => h, hG, hA.below hb, ?_, fun r hr => (by cases hr), fun _ b off _ h => by cases h⟩
  rw [h0]
  exact World.ownsRow_nil _ _ _ _
set_option maxRecDepth 100000 in
set_option maxHeartbeats 4000000 in
theorem said_any [Inhabited LowT] (B : Nat) (σ : EnvV) (ps : List PartV) (A : Option Addr) (c : Nat) (v : Value) (w : World) (hB : B ≤ w.heap.size) (hB0 : lowN < B) (hv : VarsAt w B v σ) (hT : Tab w) (hP : PAt 20 w A ps) (hW : WB 20 ps σ) :
    Calls Tryd.prog 17 #[.slice A ps.length c, v] w fun e w' => e = .returned (.string ⟨(saidO (evalW 20 ps σ)).toArray⟩) ∧ Below B w w' := by
  obtain ⟨hs0, vL, AA, cA, rfl, hL, hG, hA⟩ := hv
  obtain ⟨AL, cL, rfl, _, _⟩ := own_form hL
  have hbd := evalW_bd 20 ps σ hW.ok
  have hee := evalW_e 20 ps σ
  have hwt : wtF (evalW 20 ps σ).F ≤ 100000000 := by have h1 := hbd.wt; have h2 := hW.wt; omega
  have hx := fun w2 h1 => expand_any (fun k => B ≤ k) (w.heap.size + 1) σ ps A c w2 h1 (fun k hk h => by omega)
  have HX := hid hx
  have HL := hid (And.intro hs0 (And.intro hL (And.intro hG hA)))
  have HT := hid hT
  have HP := hid hP
  have HW := hid hW
  have HB := hid hB
  clear hx hs0 hL hG hA hT hP hW hbd
  generalize evalW 20 ps σ = o at *
  obtain ⟨oe, oF, os⟩ := o
  dsimp only at hwt hee
  go_enter Tryd.func17, Tryd.ntmps17
  go_wp2_with fail
  obtain ⟨W, hWW⟩ : ∃ W, W = (w.alloc (.cells #[.slice AL σ.vars.length cL, .slice AA σ.args.length cA, .int .i64 σ.status] 26)).alloc (.cells #[.slice AL σ.vars.length cL, .slice AA σ.args.length cA, .int .i64 σ.status, .slice none 0 0] 31) := ⟨_, rfl⟩
  have hBW : Below w.heap.size w W := by rw [hWW]; exact ((Below.refl _ _).alloc (Nat.le_refl _) _).alloc (by simp) _
  have hA31 : At W (w.heap.size + 1) 31 #[.slice AL σ.vars.length cL, .slice AA σ.args.length cA, .int .i64 σ.status, .slice none 0 0] := by
    rw [hWW]
    have := heap_alloc_new (w.alloc (.cells #[.slice AL σ.vars.length cL, .slice AA σ.args.length cA, .int .i64 σ.status] 26)) (.cells #[.slice AL σ.vars.length cL, .slice AA σ.args.length cA, .int .i64 σ.status, .slice none 0 0] 31)
    simp only [World.size_alloc] at this
    exact this
  rw [← hWW]
  clear hWW
  have hE := envAt_made HB.out HL.out.1 HL.out.2.1 HL.out.2.2.1 HL.out.2.2.2 hBW (by have := HB.out; omega) hA31
  refine (HX.out W hE (HT.out.below hBW) (HP.out.below hBW) HW.out).mono ?_
  rintro e w3 ⟨v3, rfl, hF3, hN3, hE3, hK3⟩
  have hB3 : Below B w w3 := (hBW.mono HB.out).trans (hK3.toBelow (Nat.le_trans HB.out hBW.size) fun k t h => h.1)
  have HF3 := hid hF3
  have HB3 := hid hB3
  have hs3 : B ≤ w3.heap.size := Nat.le_trans HB.out hB3.size
  clear hF3 hN3 hE3 hK3 hB3 hE hA31 hBW HX
  by_cases h0 : oe = 0
  · subst h0
    obtain ⟨A2, c2, rows, rfl, hT2, _, hR2⟩ := (HF3.out rfl).row
    have HFO := hid (HF3.out rfl)
    have hlF := len_wtF oF
    have hFI : (oF.length : Int) ≤ 100000000 := by omega
    clear hT2 hR2 HF3 rows
    go_wp2_with fail
    go_loopg [7, 8] oF.length (fun m v7 v8 wr => ∃ i : Nat, m + i = oF.length ∧ v8 = .int .i64 i ∧ v7 = .string ⟨(saidF (oF.take i)).toArray⟩ ∧ Below w3.heap.size w3 wr)
    case atStart => exact ⟨0, rfl, rfl, rfl, Below.refl _ _⟩
    case round =>
      obtain ⟨i, hm, rfl, rfl, hBr⟩ := hrel
      obtain ⟨g0, hg0⟩ : ∃ g0 : Nat, g0 = gk := ⟨_, rfl⟩
      have HM := hid hm
      have HG0 := hid hg0
      have HBR := hid hBr
      clear hm hg0
      have hsl := saidF_len (oF.take i)
      have hwl := wtF_take oF i
      by_cases hi : i < oF.length
      · have hiI : (i : Int) < (oF.length : Int) := by omega
        have hG2 := HFO.out.kw (M := fun _ _ => False) (Kw.below hBr) fun _ _ _ _ h => h
        obtain ⟨A4, c4, rows, hv, hA, _, hR⟩ := hG2.row
        injection hv with hv1 hv2 hv3
        subst hv1 hv3
        obtain ⟨u, hu, AR, cR, rfl, hTR, _⟩ := hR.get hi
        obtain ⟨b, off, cur, fz, rfl, hb, hcur⟩ := hA.2 (by omega)
        have hsg := wtR_getD oF i hi
        generalize hg : oF.getD i [] = g at hu hTR hsg
        have HGG := hid hg
        have HROW : Hid (∀ V, Below wr.heap.size wr V → V.cell? ⟨b, off + i, none⟩ = some (.slice AR g.length cR)) := hid fun V hV => by
          have := (cell_of_row wr b (off + i) cur 38 fz hb).trans (hcur i _ hu)
          exact cell_below this hV
        have HTR := hid hTR
        have hgI : (g.length : Int) ≤ 100000000 := by have := len_wtR g; omega
        obtain ⟨P, hP⟩ : ∃ P, P = saidF (oF.take i) := ⟨_, rfl⟩
        rw [← hP] at hsl ⊢
        have HPP := hid hP
        clear hg hu hTR hb hcur hA hR hG2 hBr hv2 hP
        have hPl : P.length ≤ 200000000 := by omega
        go_wp2_with fail
        go_loopg [7, 9] g.length (fun m v7 v9 wi => ∃ k : Nat, m + k = g.length ∧ v9 = .int .i64 k ∧ v7 = .string ⟨(P ++ 91 :: (g.take k).flatMap saidR).toArray⟩ ∧ Below wr.heap.size wr wi)
        case atStart => exact ⟨0, rfl, rfl, by simp, Below.refl _ _⟩
        case round =>
          obtain ⟨k, hm, rfl, rfl, hBi⟩ := hrel
          have HMK := hid hm
          have HBI := hid hBi
          have x1 := HROW.out _ hBi
          have hql := saidRs_len (g.take k)
          have hqw := wtR_take g k
          obtain ⟨Q, hQ⟩ : ∃ Q, Q = (g.take k).flatMap saidR := ⟨_, rfl⟩
          rw [← hQ] at hql ⊢
          have HQQ := hid hQ
          clear hm hQ
          have hQl : Q.length ≤ 200000000 := by omega
          by_cases hk : k < g.length
          · have hkI : (k : Int) < (g.length : Int) := by omega
            obtain ⟨b2, off2, hA2, hb2, hc2⟩ := (HTR.out.below hBi).rc.at_ hk
            subst hA2
            obtain ⟨g1, g2, g3⟩ := rnv_get g k hk
            have y0 := hc2 0 _ g1
            have y1 := hc2 1 _ g2
            have y2 := hc2 2 _ g3
            rw [Nat.add_zero] at y0
            rw [← Nat.add_assoc] at y1 y2
            have hrl := run_wtR g k hk
            generalize hr : g.getD k run0 = r at y0 y1 y2 hrl
            obtain ⟨t, q, s⟩ := r
            have HRR := hid hr
            clear hBi hc2 g1 g2 g3 hr
            dsimp only at y0 y1 y2 hrl
            have htl : t.length ≤ 200000000 := by omega
            have hPQ : (P ++ 91 :: Q).length = P.length + Q.length + 1 := by simp; omega
            cases q with
            | true =>
              go_wp2_with fail
              go_roundg (gk - 1)
              case measure => go_light; have := HMK.out; omega
              case rel =>
                go_light
                have := HMK.out
                refine ⟨k + 1, by omega, int_cast (by omega), ?_, HBI.out.alloc HBI.out.size _⟩
                rw [getD_succ g run0 hk, HRR.out, List.flatMap_append, ← HQQ.out]
                simp [saidR]
            | false =>
              cases s with
              | true =>
                go_wp2_with fail
                go_roundg (gk - 1)
                case measure => go_light; have := HMK.out; omega
                case rel =>
                  go_light
                  have := HMK.out
                  refine ⟨k + 1, by omega, int_cast (by omega), ?_, HBI.out.alloc HBI.out.size _⟩
                  rw [getD_succ g run0 hk, HRR.out, List.flatMap_append, ← HQQ.out]
                  simp [saidR]
              | false =>
                go_wp2_with fail
                go_roundg (gk - 1)
                case measure => go_light; have := HMK.out; omega
                case rel =>
                  go_light
                  have := HMK.out
                  refine ⟨k + 1, by omega, int_cast (by omega), ?_, HBI.out.alloc HBI.out.size _⟩
                  rw [getD_succ g run0 hk, HRR.out, List.flatMap_append, ← HQQ.out]
                  simp [saidR]
          · have := HMK.out
            obtain rfl : k = g.length := by omega
            clear hBi
            go_wp2_with fail
            go_roundg (g0 - 1)
            case measure => go_light; have := HM.out; have := HG0.out; omega
            case rel =>
              go_light
              have := HM.out
              have := HG0.out
              refine ⟨i + 1, by omega, int_cast (by omega), ?_, HBR.out.trans (HBI.out.mono HBR.out.size)⟩
              rw [getD_succ oF [] hi, HGG.out, saidF_snoc, ← HPP.out, saidG, HQQ.out, List.take_length]
              simp
      · have := HM.out
        obtain rfl : i = oF.length := by omega
        clear hBr
        go_wp2_with fail
        go_ret
        have e : saidO ⟨0, oF, os⟩ = saidF oF := rfl
        rw [e, List.take_length]
        exact ⟨rfl, HB3.out.trans (HBR.out.mono hs3)⟩
  · have hei : ¬ oe = 0 := h0
    have hb8 : ((UInt8.ofNat (97 + oe.toNat)).toNat : Int) = 97 + oe := by
      rw [UInt8.toNat_ofNat']
      omega
    have he9 : saidO ⟨oe, oF, os⟩ = [33, UInt8.ofNat (97 + oe.toNat)] := by unfold saidO; rw [if_neg h0]
    generalize UInt8.ofNat (97 + oe.toNat) = ch at *
    have hAe : At (w3.alloc (.cells #[.int .u8 33, .int .u8 (97 + oe)] 5)) w3.heap.size 5 #[.int .u8 33, .int .u8 (97 + oe)] := heap_alloc_new w3 _
    have hRd : Rd (w3.alloc (.cells #[.int .u8 33, .int .u8 (97 + oe)] 5)) (w3.heap.size + 1) (some ⟨w3.heap.size, 0, none⟩) 2 (bv [33, ch]) := Rd.of_at hAe (by omega) (by rw [bv_cons, bv_cons, bv_nil, hb8]; rfl) rfl
    have HRD := hid hRd
    clear hRd hAe
    go_wp2_with (refine wpList_string_of rfl (.tmp 25) 42 9 5 rfl Tryd.underlying42 Tryd.underlying5 Tryd.underlying9 (w3.heap.size + 1) _ 2 2 rfl [33, ch] HRD.out ?_)
    go_ret
    rw [he9]
    exact ⟨rfl, HB3.out.alloc hs3 _⟩
end Go.Proofs.YtklihdlfbhgpeaaDoor
