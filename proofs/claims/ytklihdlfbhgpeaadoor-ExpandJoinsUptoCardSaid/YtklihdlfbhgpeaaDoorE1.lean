/-
  The walks of the law's environment: Status, Args, Get, Set, Subst.
-/
import Derived.Test.YtklihdlfbhgpeaaDoorApp
namespace Go.Proofs.YtklihdlfbhgpeaaDoor
open Go.RowKit
set_option linter.unusedVariables false

theorem infoS : (Tryd.prog.info? 9).map (fun i => (i.zero, i.size, i.bytes)) = some (some (.string ⟨#[]⟩), 1, 16) := by kernel_rfl
theorem infoV : (Tryd.prog.info? 44).map (fun i => (i.zero, i.size, i.bytes)) = some (some (.agg #[.string ⟨#[]⟩, .string ⟨#[]⟩]), 2, 32) := by kernel_rfl
/-- Behind the append: the environment's block is as it was. -/
theorem said_cells {w w2 : World} {Eb : Nat} {vL vS : Value} {AA : Option Addr} {n c : Nat} {st : Int} {k : Nat} {xs : List Value} {tmp : Obj}
    (hat : At w Eb 31 #[vL, .slice AA n c, .int .i64 st, vS]) (h5 : w.ownsRow 0 9 1 vS k xs) (hg : (w.alloc tmp).grownBy w2 vS.ownBlock) : At w2 Eb 31 #[vL, .slice AA n c, .int .i64 st, vS] := by
  refine (hat.alloc tmp).grown hg fun e => ?_
  obtain ⟨cur, hc⟩ := own_cells h5 e.symm
  have h' : w.heap[Eb]? = some (.cells #[vL, .slice AA n c, .int .i64 st, vS] 31 (0, 0)) := hat
  rw [h'] at hc
  injection hc with hc
  injection hc with _ hc
  exact absurd hc (by decide)
theorem EnvAt.args_at {w : World} {S : Nat → Prop} {Eb : Nat} {σ : EnvV} {A : Option Addr} {n c : Nat} (h : EnvAt w S Eb σ) (hc : w.cell? ⟨Eb, 1, none⟩ = some (.slice A n c)) : n = σ.args.length ∧ TR w 9 1 A σ.args.length (txv σ.args) := by
  obtain ⟨up, own, vL, AA, cA, vS, h1, h2, h3, h4, h5, h6, h7⟩ := h
  rw [h1.cell] at hc
  simp at hc
  obtain ⟨rfl, rfl, rfl⟩ := hc
  exact ⟨rfl, h4⟩
theorem EnvAt.vars_at {w : World} {S : Nat → Prop} {Eb : Nat} {σ : EnvV} {v : Value} (h : EnvAt w S Eb σ) (hc : w.cell? ⟨Eb, 0, none⟩ = some v) : w.ownsRow 0 44 2 v σ.vars.length (vrv σ.vars) ∧ Grows S v σ.vars.length := by
  obtain ⟨up, own, vL, AA, cA, vS, h1, h2, h3, h4, h5, h6, h7⟩ := h
  rw [h1.cell] at hc
  simp at hc
  subst hc
  exact ⟨h2, h3⟩
theorem EnvAt.putVar {w w3 : World} {S : Nat → Prop} {Eb : Nat} {σ : EnvV} {v' : Value} {tmp : Obj} (x : Str × Str) (h : EnvAt w S Eb σ)
    (hown : w3.ownsRow 0 44 2 v' (σ.vars.length + 1) (vrv σ.vars ++ [.string ⟨x.1.toArray⟩, .string ⟨x.2.toArray⟩])) (hS : ∀ r, v'.ownBlock = some r → S r) (hK : Kw (fun k t => S k ∧ t = 44) (w.alloc tmp) w3) :
    EnvAt (w3.setCell ⟨Eb, 0, none⟩ v') S Eb { σ with vars := σ.vars ++ [x] } ∧ Kw (ME S) w (w3.setCell ⟨Eb, 0, none⟩ v') ∧ w3.cell? ⟨Eb, 0, none⟩ ≠ none ∧ w3.frozen? ⟨Eb, 0, none⟩ = false := by
  obtain ⟨up, own, vL, AA, cA, vS, h1, h2, h3, h4, h5, h6, h7⟩ := h
  have k3 : Kw (fun k t => S k ∧ t = 44) w w3 := ((Kw.refl _ _).alloc tmp).trans hK
  have hE2 : At w3 Eb 31 #[vL, .slice AA σ.args.length cA, .int .i64 σ.status, vS] := k3.at_ h1 (fun h => absurd h.2 (by decide))
  have hE3 : At (w3.setCell ⟨Eb, 0, none⟩ v') Eb 31 #[v', .slice AA σ.args.length cA, .int .i64 σ.status, vS] := hE2.set 0 v'
  have k4 : Kw (fun k t => k = Eb ∧ t = 31) w3 (w3.setCell ⟨Eb, 0, none⟩ v') := (Kw.refl _ _).set hE2 ⟨rfl, rfl⟩ _ _
  refine ⟨⟨fun k hk => up k (Nat.le_trans (Nat.le_trans k3.size k4.size) hk), own, v', AA, cA, vS, hE3, ?_, .inl hS, ?_, ?_, h6, h7⟩, ?_, ?_, hE2.frozen 0⟩
  · rw [vrv_snoc, List.length_append]
    exact own_kw hown k4 fun r _ h => absurd h.2 (by decide)
  · exact (h4.kw k3 fun b h => absurd h.2 (by decide)).kw k4 fun b h => absurd h.2 (by decide)
  · exact own_kw (own_kw h5 k3 fun r _ h => absurd h.2 (by decide)) k4 fun r _ h => absurd h.2 (by decide)
  · exact (k3.mono (N := ME S) fun k t _ h => ⟨h.1, .inr (.inl h.2)⟩).trans (k4.mono fun k t _ h => ⟨h.1 ▸ own, .inl h.2⟩)
  · rw [hE2.cell]; simp
theorem say_facts {w w2 : World} {S : Nat → Prop} {Eb : Nat} {σ : EnvV} {vL vS v' : Value} {AA : Option Addr} {cA : Nat} {tmp : Obj} (s : Str) (h : EnvAt w S Eb σ)
    (hat : At w Eb 31 #[vL, .slice AA σ.args.length cA, .int .i64 σ.status, vS]) (h5 : w.ownsRow 0 9 1 vS σ.seen.length (txv σ.seen)) (hown : w2.ownsRow 0 9 1 v' (σ.seen.length + 1) (txv σ.seen ++ [.string ⟨s.toArray⟩])) (hg : (w.alloc tmp).grownBy w2 vS.ownBlock)
    (hb : v'.ownBlock = vS.ownBlock ∨ v'.ownBlock = some (w.alloc tmp).heap.size) :
    ∃ A' c', v' = .slice A' (σ.seen.length + 1) c' ∧ w2.cell? ⟨Eb, 3, none⟩ = some vS ∧ w2.frozen? ⟨Eb, 3, none⟩ = false ∧ Hid (EnvAt (w2.setCell ⟨Eb, 3, none⟩ (.slice A' (σ.seen.length + 1) c')) S Eb (σ.say s) ∧ Kw (ME S) w (w2.setCell ⟨Eb, 3, none⟩ (.slice A' (σ.seen.length + 1) c'))) := by
  have hE2 := said_cells hat h5 hg
  have := h.say s hat hown hg hb
  obtain ⟨A', c', rfl, _, _⟩ := own_form hown
  exact ⟨A', c', rfl, by rw [hE2.cell]; rfl, hE2.frozen 3, this⟩
set_option maxRecDepth 100000 in
set_option maxHeartbeats 1000000 in
theorem status_any (S : Nat → Prop) (Eb : Nat) (σ : EnvV) (w : World) (h : EnvAt w S Eb σ) (hn : σ.seen.length ≤ 1000000000) :
    Calls Tryd.prog 103 #[.pointer (some ⟨Eb, 0, none⟩)] w fun e w' => e = .returned (.int .i64 σ.status) ∧ EnvAt w' S Eb (σ.say statusB) ∧ Kw (ME S) w w' := by
  obtain ⟨i0, hi, hz0, hz1, hz2⟩ := info_parts infoS
  have H := hid h
  obtain ⟨up, own, vL, AA, cA, vS, hat, h2, h3, h4, h5, h6, h7⟩ := h
  have HAT := hid hat
  have H4 := hid h4
  have c0 : w.cell? ⟨Eb, 0, none⟩ = some vL := by rw [hat.cell]; rfl
  have c1 : w.cell? ⟨Eb, 1, none⟩ = some (.slice AA σ.args.length cA) := by rw [hat.cell]; rfl
  have c2 : w.cell? ⟨Eb, 2, none⟩ = some (.int .i64 σ.status) := by rw [hat.cell]; rfl
  have c3 : w.cell? ⟨Eb, 3, none⟩ = some vS := by rw [hat.cell]; rfl
  have hEb := hat.lt
  clear up own h2 h3 h4 h7 hat h6
  go_enter Tryd.func103, Tryd.ntmps103
  go_wp2_with (at_builtin; refine wpList_append_own_at _ rfl (.tmp 7) (.tmp 8) 24 rfl 0 9 i0 (.string ⟨#[]⟩) 1 16 Tryd.underlying24 hi hz0 hz1 hz2 rfl (by decide) vS σ.seen.length _ rfl (own_alloc h5 _) ⟨w.heap.size, 0, none⟩ 1 1 [.string ⟨([115, 116, 97, 116, 117, 115] : Str).toArray⟩] rfl rfl (cell_one_new _ _ _) (by simp [Value.oneCell']) (by unfold maxLen; omega) (by omega) (by simp) ?_)
  intro v' w2 hown' hgrow hnil hat'
  have hE2 := said_cells HAT.out h5 hgrow
  have d0 : w2.cell? ⟨Eb, 0, none⟩ = some vL := by rw [hE2.cell]; rfl
  have d1 : w2.cell? ⟨Eb, 1, none⟩ = some (.slice AA σ.args.length cA) := by rw [hE2.cell]; rfl
  have d2 : w2.cell? ⟨Eb, 2, none⟩ = some (.int .i64 σ.status) := by rw [hE2.cell]; rfl
  have d3 : w2.cell? ⟨Eb, 3, none⟩ = some vS := by rw [hE2.cell]; rfl
  have f3 : w2.frozen? ⟨Eb, 3, none⟩ = false := hE2.frozen 3
  have HSAY := hid (H.out.say ([115, 116, 97, 116, 117, 115] : Str) HAT.out hown' hgrow (by simpa using hat'))
  have hEb2 := hE2.lt
  have HE3 := hid (hE2.set 3 v')
  obtain ⟨A', c', rfl, _, _⟩ := own_form hown'
  clear hE2 hgrow hown' hnil hat'
  go_wp2_with fail
  go_ret
  exact ⟨rfl, HSAY.out⟩
/-- What Args hands back. -/
def TxOut (w : World) (l : List Str) (v : Value) : Prop := ∃ A c, v = .slice A l.length c ∧ TR w 9 1 A l.length (txv l) ∧ l.length ≤ c
theorem own_cap {w : World} {base : Nat} {t : TypeId} {k n : Nat} {A : Option Addr} {c : Nat} {xs : List Value} (h : w.ownsRow base t k (.slice A n c) n xs) : n ≤ c := by
  rcases h.2 with ⟨_, h0⟩ | ⟨g, cap, cur, hv, _, _, hnc, _⟩
  · omega
  · injection hv with _ _ h3
    omega
theorem txv_one (l : List Str) : ∀ u ∈ txv l, u.oneCell' = true := by
  intro v hv
  obtain ⟨s, _, rfl⟩ := List.mem_map.1 hv
  rfl
set_option maxRecDepth 100000 in
set_option maxHeartbeats 1000000 in
theorem args_any (S : Nat → Prop) (Eb : Nat) (σ : EnvV) (w : World) (h : EnvAt w S Eb σ) (hn : σ.seen.length ≤ 1000000000) (ha : σ.args.length ≤ 1000) :
    Calls Tryd.prog 100 #[.pointer (some ⟨Eb, 0, none⟩)] w fun e w' => (∃ v, e = .returned v ∧ TxOut w' σ.args v) ∧ EnvAt w' S Eb (σ.say argsB) ∧ Kw (ME S) w w' := by
  obtain ⟨i0, hi, hz0, hz1, hz2⟩ := info_parts infoS
  have H := hid h
  obtain ⟨up, own, vL, AA, cA, vS, hat, h2, h3, h4, h5, h6, h7⟩ := h
  have HAT := hid hat
  have H4 := hid h4
  have c0 : w.cell? ⟨Eb, 0, none⟩ = some vL := by rw [hat.cell]; rfl
  have c1 : w.cell? ⟨Eb, 1, none⟩ = some (.slice AA σ.args.length cA) := by rw [hat.cell]; rfl
  have c2 : w.cell? ⟨Eb, 2, none⟩ = some (.int .i64 σ.status) := by rw [hat.cell]; rfl
  have c3 : w.cell? ⟨Eb, 3, none⟩ = some vS := by rw [hat.cell]; rfl
  have hEb := hat.lt
  clear up own h2 h3 h4 h7 hat h6
  go_enter Tryd.func100, Tryd.ntmps100
  go_wp2_with (at_builtin; refine wpList_append_own_at _ rfl (.tmp 7) (.tmp 8) 24 rfl 0 9 i0 (.string ⟨#[]⟩) 1 16 Tryd.underlying24 hi hz0 hz1 hz2 rfl (by decide) vS σ.seen.length _ rfl (own_alloc h5 _) ⟨w.heap.size, 0, none⟩ 1 1 [.string ⟨([97, 114, 103, 115] : Str).toArray⟩] rfl rfl (cell_one_new _ _ _) (by simp [Value.oneCell']) (by unfold maxLen; omega) (by omega) (by simp) ?_)
  intro v' w2 hown' hgrow hnil hat'
  have hE2 := said_cells HAT.out h5 hgrow
  have d0 : w2.cell? ⟨Eb, 0, none⟩ = some vL := by rw [hE2.cell]; rfl
  have d1 : w2.cell? ⟨Eb, 1, none⟩ = some (.slice AA σ.args.length cA) := by rw [hE2.cell]; rfl
  have d2 : w2.cell? ⟨Eb, 2, none⟩ = some (.int .i64 σ.status) := by rw [hE2.cell]; rfl
  have d3 : w2.cell? ⟨Eb, 3, none⟩ = some vS := by rw [hE2.cell]; rfl
  have f3 : w2.frozen? ⟨Eb, 3, none⟩ = false := hE2.frozen 3
  have HSAY := hid (H.out.say ([97, 114, 103, 115] : Str) HAT.out hown' hgrow (by simpa using hat'))
  have hEb2 := hE2.lt
  have HE3 := hid (hE2.set 3 v')
  obtain ⟨A', c', rfl, _, _⟩ := own_form hown'
  clear hE2 hgrow hown' hnil hat'
  obtain ⟨hE, hK⟩ := HSAY.out
  obtain ⟨W, hW⟩ : ∃ W, W = w2.setCell ⟨Eb, 3, none⟩ (.slice A' (σ.seen.length + 1) c') := ⟨_, rfl⟩
  have e1 : W.cell? ⟨Eb, 1, none⟩ = some (.slice AA σ.args.length cA) := by rw [hW, HE3.out.cell]; rfl
  have hsz : W.heap.size = w2.heap.size := by rw [hW]; simp
  rw [← hW] at hE hK
  have hT := (hE.args_at e1).2
  have HE := hid hE
  have HK := hid hK
  have hT2 : Rc (W.alloc (.cells #[] 9)) 1 AA σ.args.length (txv σ.args) := (hT.alloc _).rc
  have hO : (W.alloc (.cells #[] 9)).ownsRow w2.heap.size 9 1 (.slice (some ⟨w2.heap.size, 0, none⟩) 0 0) 0 [] := by
    rw [← hsz]; exact World.ownsRow_made W #[] 0 (Nat.le_refl _) (by decide) rfl
  rw [hW] at hT2 hO
  go_wp2_with (at_builtin; refine wpList_append_rc rfl (.tmp 12) (.tmp 17) 24 rfl w2.heap.size 9 i0 (.string ⟨#[]⟩) 1 16 Tryd.underlying24 hi hz0 hz1 hz2 rfl (by decide) _ 0 _ rfl hO AA σ.args.length cA (txv σ.args) rfl hT2 (txv_one _) (by unfold maxLen; omega) (by omega) (by simp) ?_)
  intro v' w3 hown3 hg3 hat3
  go_wp2_with fail
  go_ret
  have hB : Below W.heap.size W w3 := ((Below.refl _ _).alloc (Nat.le_refl _) _).trans (by
    rw [← hW] at hg3
    exact Below.of_grown hg3 (by simp) (fun k hk => by
      have : w2.heap.size = k := by simpa [Value.ownBlock] using hk
      omega))
  obtain ⟨A3, c3', rfl, _, _⟩ := own_form hown3
  exact ⟨⟨_, rfl, A3, c3', rfl, TR.of_own hown3, own_cap hown3⟩, HE.out.below hB, HK.out.trans (Kw.below hB)⟩
/-- The answer of Get. -/
def getR (l : List (Str × Str)) (n : Str) : Str × Bool := match getL l n with | some v => (v, true) | none => ([110, 111, 116, 32, 115, 101, 116], false)
set_option maxRecDepth 100000 in
set_option maxHeartbeats 1000000 in
theorem get_any (S : Nat → Prop) (Eb : Nat) (σ : EnvV) (name : Str) (w : World) (h : EnvAt w S Eb σ) (hn : σ.seen.length ≤ 1000000000) (hv : σ.vars.length ≤ 1000000000) (hnm : name.length ≤ 1000000000) :
    Calls Tryd.prog 101 #[.pointer (some ⟨Eb, 0, none⟩), .string ⟨name.toArray⟩] w fun e w' => e = .returned (.tuple #[.string ⟨(getR σ.vars name).1.toArray⟩, .bool (getR σ.vars name).2]) ∧ EnvAt w' S Eb (σ.say (getB ++ name)) ∧ Kw (ME S) w w' := by
  obtain ⟨i0, hi, hz0, hz1, hz2⟩ := info_parts infoS
  have H := hid h
  obtain ⟨up, own, vL, AA, cA, vS, hat, h2, h3, h4, h5, h6, h7⟩ := h
  obtain ⟨AL, cL, rfl, _, _⟩ := own_form h2
  have HAT := hid hat
  have c0 : w.cell? ⟨Eb, 0, none⟩ = some (.slice AL σ.vars.length cL) := by rw [hat.cell]; rfl
  have c1 : w.cell? ⟨Eb, 1, none⟩ = some (.slice AA σ.args.length cA) := by rw [hat.cell]; rfl
  have c2 : w.cell? ⟨Eb, 2, none⟩ = some (.int .i64 σ.status) := by rw [hat.cell]; rfl
  have c3 : w.cell? ⟨Eb, 3, none⟩ = some vS := by rw [hat.cell]; rfl
  have hEb := hat.lt
  clear up own h2 h3 h4 h7 hat h6
  go_enter Tryd.func101, Tryd.ntmps101
  go_wp2_with (at_builtin; refine wpList_append_own_at _ rfl (.tmp 11) (.tmp 14) 24 rfl 0 9 i0 (.string ⟨#[]⟩) 1 16 Tryd.underlying24 hi hz0 hz1 hz2 rfl (by decide) vS σ.seen.length _ rfl (own_alloc h5 _) ⟨w.heap.size, 0, none⟩ 1 1 [.string ⟨([103, 101, 116, 32] ++ name : Str).toArray⟩] rfl rfl (cell_one_new _ _ _) (by simp [Value.oneCell']) (by unfold maxLen; omega) (by omega) (by simp) ?_)
  intro v' w2 hown' hgrow hnil hat'
  have hE2 := said_cells HAT.out h5 hgrow
  have d0 : w2.cell? ⟨Eb, 0, none⟩ = some (.slice AL σ.vars.length cL) := by rw [hE2.cell]; rfl
  have d1 : w2.cell? ⟨Eb, 1, none⟩ = some (.slice AA σ.args.length cA) := by rw [hE2.cell]; rfl
  have d2 : w2.cell? ⟨Eb, 2, none⟩ = some (.int .i64 σ.status) := by rw [hE2.cell]; rfl
  have d3 : w2.cell? ⟨Eb, 3, none⟩ = some vS := by rw [hE2.cell]; rfl
  have f3 : w2.frozen? ⟨Eb, 3, none⟩ = false := hE2.frozen 3
  have HSAY := hid (H.out.say ([103, 101, 116, 32] ++ name : Str) HAT.out hown' hgrow (by simpa using hat'))
  have hEb2 := hE2.lt
  have HE3 := hid (hE2.set 3 v')
  obtain ⟨A', c', rfl, _, _⟩ := own_form hown'
  clear hE2 hgrow hown' hnil hat'
  obtain ⟨hE, hK⟩ := HSAY.out
  obtain ⟨W, hW⟩ : ∃ W, W = w2.setCell ⟨Eb, 3, none⟩ (.slice A' (σ.seen.length + 1) c') := ⟨_, rfl⟩
  have e0 : W.cell? ⟨Eb, 0, none⟩ = some (.slice AL σ.vars.length cL) := by rw [hW, HE3.out.cell]; rfl
  rw [← hW] at hE hK
  have hT := (hE.vars_at e0).1
  have HE := hid hE
  have HK := hid hK
  have HT := hid (TR.of_own hT).rc
  clear hE hK hT HSAY
  go_wp2_with fail
  rw [← hW]
  clear hW HE3 d0 d1 d2 d3 f3 hEb2 h5 c0 c1 c2 c3 HAT H
  have hvI : (σ.vars.length : Int) ≤ 1000000000 := by omega
  go_loopg [6] σ.vars.length (fun m v6 wr => ∃ k : Nat, m = k ∧ k ≤ σ.vars.length ∧ v6 = .int .i64 ((k : Int) - 1) ∧ getL σ.vars name = getL (σ.vars.take k) name ∧ wr = W)
  case atStart => exact ⟨_, rfl, Nat.le_refl _, rfl, by rw [List.take_length], rfl⟩
  case round =>
    obtain ⟨k, hm, hkl, rfl, hg, rfl⟩ := hrel
    have HM := hid hm
    have HG := hid hg
    clear hm hg
    cases k with
    | zero =>
      go_wp2_with fail
      go_ret2
      refine ⟨?_, HE.out, HK.out⟩
      rw [getR, HG.out]
      rfl
    | succ j =>
      rw [show ((j + 1 : Nat) : Int) - 1 = (j : Int) by omega]
      obtain ⟨b, off, hA, hb, hcc⟩ := HT.out.at_ (i := j) (by omega)
      obtain ⟨g1, g2⟩ := vrv_get σ.vars j (by omega)
      have x1 := hcc 0 _ g1
      have x2 := hcc 1 _ g2
      rw [Nat.add_zero] at x1
      rw [← Nat.add_assoc] at x2
      subst hA
      have i1 : (j : Int) < (σ.vars.length : Int) := by omega
      generalize hx : σ.vars.getD j ([], []) = x at x1 x2
      obtain ⟨xn, xv⟩ := x
      have HX := hid hx
      clear hcc g1 g2 hx
      by_cases he : xn = name
      · subst he
        have hq : (xn == xn) = true := by simp
        go_wp2_with fail
        go_ret2
        refine ⟨?_, HE.out, HK.out⟩
        rw [getR, HG.out, getD_succ σ.vars ([], []) (by omega), HX.out, getL_snoc, if_pos rfl]
        rfl
      · have hq : (xn == name) = false := by simpa using he
        go_wp2_with fail
        go_roundg (gk - 1)
        case measure => go_light; have := HM.out; omega
        case rel =>
          go_light
          have hm := HM.out
          refine ⟨j, by omega, by omega, int_cast (by omega), ?_, rfl⟩
          rw [HG.out, getD_succ σ.vars ([], []) (by omega), HX.out, getL_snoc, if_neg he]
set_option maxRecDepth 100000 in
set_option maxHeartbeats 1000000 in
theorem set_any' (S : Nat → Prop) (Eb : Nat) (σ : EnvV) (name value : Str) (w : World) (h : EnvAt w S Eb σ) (hn : σ.seen.length ≤ 1000000000) (hv : σ.vars.length ≤ 1000000000) (hnm : name.length ≤ 1000000000) (hvl : value.length ≤ 1000000000) :
    Calls Tryd.prog 102 #[.pointer (some ⟨Eb, 0, none⟩), .string ⟨name.toArray⟩, .string ⟨value.toArray⟩] w fun e w' => e = .returned (.int .i64 (if 90 < value.length then 10 else 0)) ∧ EnvAt w' S Eb (setV name value σ) ∧ Kw (ME S) w w' := by
  obtain ⟨i0, hi, hz0, hz1, hz2⟩ := info_parts infoS
  have H := hid h
  obtain ⟨up, own, vL, AA, cA, vS, hat, h2, h3, h4, h5, h6, h7⟩ := h
  obtain ⟨AL, cL, rfl, _, _⟩ := own_form h2
  have HAT := hid hat
  have c0 : w.cell? ⟨Eb, 0, none⟩ = some (.slice AL σ.vars.length cL) := by rw [hat.cell]; rfl
  have c1 : w.cell? ⟨Eb, 1, none⟩ = some (.slice AA σ.args.length cA) := by rw [hat.cell]; rfl
  have c2 : w.cell? ⟨Eb, 2, none⟩ = some (.int .i64 σ.status) := by rw [hat.cell]; rfl
  have c3 : w.cell? ⟨Eb, 3, none⟩ = some vS := by rw [hat.cell]; rfl
  have hEb := hat.lt
  clear up own h2 h3 h4 h7 hat h6
  have hsz : (ByteArray.mk value.toArray).size = value.length := by simp [ByteArray.size]
  go_enter Tryd.func102, Tryd.ntmps102
  go_wp2_with (at_builtin; refine wpList_append_own_at _ rfl (.tmp 11) (.tmp 17) 24 rfl 0 9 i0 (.string ⟨#[]⟩) 1 16 Tryd.underlying24 hi hz0 hz1 hz2 rfl (by decide) vS σ.seen.length _ rfl (own_alloc h5 _) ⟨w.heap.size, 0, none⟩ 1 1 [.string ⟨(115 :: 101 :: 116 :: 32 :: (name ++ 61 :: value) : Str).toArray⟩] rfl rfl (cell_one_new _ _ _) (by simp [Value.oneCell']) (by unfold maxLen; omega) (by omega) (by simp) ?_)
  intro v' w2 hown' hgrow hnil hat'
  have hE2 := said_cells HAT.out h5 hgrow
  have d0 : w2.cell? ⟨Eb, 0, none⟩ = some (.slice AL σ.vars.length cL) := by rw [hE2.cell]; rfl
  have d1 : w2.cell? ⟨Eb, 1, none⟩ = some (.slice AA σ.args.length cA) := by rw [hE2.cell]; rfl
  have d2 : w2.cell? ⟨Eb, 2, none⟩ = some (.int .i64 σ.status) := by rw [hE2.cell]; rfl
  have d3 : w2.cell? ⟨Eb, 3, none⟩ = some vS := by rw [hE2.cell]; rfl
  have f3 : w2.frozen? ⟨Eb, 3, none⟩ = false := hE2.frozen 3
  have HSAY := hid (H.out.say (115 :: 101 :: 116 :: 32 :: (name ++ 61 :: value) : Str) HAT.out hown' hgrow (by simpa using hat'))
  have hEb2 := hE2.lt
  have HE3 := hid (hE2.set 3 v')
  obtain ⟨A', c', rfl, _, _⟩ := own_form hown'
  clear hE2 hgrow hown' hnil hat'
  obtain ⟨hE, hK⟩ := HSAY.out
  obtain ⟨W, hW⟩ : ∃ W, W = w2.setCell ⟨Eb, 3, none⟩ (.slice A' (σ.seen.length + 1) c') := ⟨_, rfl⟩
  have e0 : W.cell? ⟨Eb, 0, none⟩ = some (.slice AL σ.vars.length cL) := by rw [hW, HE3.out.cell]; rfl
  rw [← hW] at hE hK
  have HE := hid hE
  have HK := hid hK
  clear hE hK HSAY
  have hs : setB ++ name ++ [61] ++ value = 115 :: 101 :: 116 :: 32 :: (name ++ 61 :: value) := by simp [setB]
  have HS := hid hs
  clear hs
  by_cases hlong : 90 < value.length
  · have hl : (90 : Int) < (value.length : Int) := by omega
    go_wp2_with fail
    go_ret
    rw [← hW]
    refine ⟨rfl, ?_, HK.out⟩
    rw [setV, if_pos hlong, HS.out]
    exact HE.out
  · have hl : ¬ (90 : Int) < (value.length : Int) := by omega
    obtain ⟨i1, hi1, hy0, hy1, hy2⟩ := info_parts infoV
    obtain ⟨hO, hG⟩ := HE.out.vars_at e0
    have hsW : W.heap.size = w2.heap.size := by rw [hW]; simp
    have hO2 : (W.alloc (.cells #[.string ⟨name.toArray⟩, .string ⟨value.toArray⟩] 44)).ownsRow 0 44 2 (.slice AL σ.vars.length cL) σ.vars.length (vrv σ.vars) := own_alloc hO _
    have hup : ∀ k, (W.alloc (.cells #[.string ⟨name.toArray⟩, .string ⟨value.toArray⟩] 44)).heap.size ≤ k → S k := fun k hk => HE.out.up k (by simp at hk; omega)
    have hnw := World.news_of_block (cs := #[.string ⟨name.toArray⟩, .string ⟨value.toArray⟩]) (heap_alloc_new W (.cells #[.string ⟨name.toArray⟩, .string ⟨value.toArray⟩] 44))
    rw [hsW] at hnw
    rw [hW] at hO2 hup hnw
    go_wp2_with (at_builtin; refine wpList_append_grows rfl (.tmp 29) (.tmp 33) 23 rfl 44 i1 (.agg #[.string ⟨#[]⟩, .string ⟨#[]⟩]) 2 32 Tryd.underlying23 hi1 hy0 hy1 hy2 rfl (by decide) _ σ.vars.length _ rfl hO2 hG hup ⟨w2.heap.size, 0, none⟩ 1 1 [.string ⟨name.toArray⟩, .string ⟨value.toArray⟩] rfl rfl hnw (by simp [Value.oneCell']) (by decide) (by unfold maxLen; omega) (by omega) ?_)
    intro v3 w3 hO3 hS3 hK3
    rw [← hW] at hK3
    obtain ⟨hE4, hK4, hc4, hf4⟩ := HE.out.putVar (name, value) hO3 hS3 hK3
    obtain ⟨u4, hu4⟩ := Option.ne_none_iff_exists'.1 hc4
    have HF := hid (And.intro hE4 (HK.out.trans hK4))
    clear hE4 hK4 hc4 hK3
    obtain ⟨A3, c3', rfl, _, _⟩ := own_form hO3
    clear hO3 hS3 hnw hup hO2 hO hG hW HE3 hsW
    go_wp2_with fail
    go_ret
    refine ⟨rfl, ?_, HF.out.2⟩
    have h9 := HF.out.1
    rw [setV, if_neg hlong, HS.out]
    exact h9
/-- How far the caller's blocks reach: no territory goes there. -/
structure LowT where
  n : Nat
def lowN [Inhabited LowT] : Nat := (default : LowT).n
/-- A command: what Subst reads of it. -/
def CmdAt [Inhabited LowT] (w : World) (B off : Nat) (c : CmdV) : Prop := ∃ cur t fz, w.heap[B]? = some (.cells cur t fz) ∧ (t = 60 ∨ B ≤ lowN) ∧ cur[off + 1]? = some (.string ⟨c.name.toArray⟩) ∧ cur[off + 2]? = some (.bool c.no)
def BodyAt [Inhabited LowT] (w : World) (A : Option Addr) : Option CmdV → Prop
  | none => A = none
  | some c => ∃ B off, A = some ⟨B, off, none⟩ ∧ CmdAt w B off c
theorem CmdAt.kw [Inhabited LowT] {M : Nat → TypeId → Prop} {w w' : World} {B off : Nat} {c : CmdV} (h : CmdAt w B off c) (hk : Kw M w w') (hm : ∀ k, ¬ M k 60) (hl : ∀ k t, k ≤ lowN → ¬ M k t) : CmdAt w' B off c := by
  obtain ⟨cur, t, fz, h1, h0, h2⟩ := h
  refine ⟨cur, t, fz, hk.keep _ _ _ _ ?_ h1, h0, h2⟩
  rcases h0 with rfl | h0
  · exact hm B
  · exact hl B t h0
theorem BodyAt.kw [Inhabited LowT] {M : Nat → TypeId → Prop} {w w' : World} {A : Option Addr} {b : Option CmdV} (h : BodyAt w A b) (hk : Kw M w w') (hm : ∀ k, ¬ M k 60) (hl : ∀ k t, k ≤ lowN → ¬ M k t) : BodyAt w' A b := by
  cases b with
  | none => exact h
  | some c =>
    obtain ⟨B, off, h1, h2⟩ := h
    exact ⟨B, off, h1, h2.kw hk hm hl⟩
/-- The answer of Subst. -/
def substR : Option CmdV → Str × Int
  | none => ([], 0)
  | some c => if c.no = true then ([], 14) else (c.name, 0)
def substS : Option CmdV → Str
  | none => nothingB
  | some c => sayB ++ c.name
set_option maxRecDepth 100000 in
set_option maxHeartbeats 1000000 in
theorem subst_any [Inhabited LowT] (S : Nat → Prop) (Eb : Nat) (σ : EnvV) (b : Option CmdV) (A : Option Addr) (w : World) (h : EnvAt w S Eb σ) (hb : BodyAt w A b) (hS : ∀ k, k ≤ lowN → ¬ S k) (hn : σ.seen.length ≤ 1000000000) (hnm : ∀ c, b = some c → c.name.length ≤ 1000000000) :
    Calls Tryd.prog 104 #[.pointer (some ⟨Eb, 0, none⟩), .pointer A] w fun e w' => e = .returned (.tuple #[.string ⟨(substR b).1.toArray⟩, .int .i64 (substR b).2]) ∧ EnvAt w' S Eb (σ.say (substS b)) ∧ Kw (ME S) w w' := by
  obtain ⟨i0, hi, hz0, hz1, hz2⟩ := info_parts infoS
  have H := hid h
  obtain ⟨up, own, vL, AA, cA, vS, hat, h2, h3, h4, h5, h6, h7⟩ := h
  have HAT := hid hat
  have H4 := hid h4
  have c0 : w.cell? ⟨Eb, 0, none⟩ = some vL := by rw [hat.cell]; rfl
  have c1 : w.cell? ⟨Eb, 1, none⟩ = some (.slice AA σ.args.length cA) := by rw [hat.cell]; rfl
  have c2 : w.cell? ⟨Eb, 2, none⟩ = some (.int .i64 σ.status) := by rw [hat.cell]; rfl
  have c3 : w.cell? ⟨Eb, 3, none⟩ = some vS := by rw [hat.cell]; rfl
  have hEb := hat.lt
  clear up own h2 h3 h4 h7 hat h6
  cases b with
  | none =>
    obtain rfl : A = none := hb
    go_enter Tryd.func104, Tryd.ntmps104
    go_wp2_with (at_builtin; refine wpList_append_own_at _ rfl (.tmp 12) (.tmp 13) 24 rfl 0 9 i0 (.string ⟨#[]⟩) 1 16 Tryd.underlying24 hi hz0 hz1 hz2 rfl (by decide) vS σ.seen.length _ rfl (own_alloc h5 _) ⟨w.heap.size, 0, none⟩ 1 1 [.string ⟨([110, 111, 116, 104, 105, 110, 103] : Str).toArray⟩] rfl rfl (cell_one_new _ _ _) (by simp [Value.oneCell']) (by unfold maxLen; omega) (by omega) (by simp) ?_)
    intro v' w2 hown' hgrow hnil hat'
    have hE2 := said_cells HAT.out h5 hgrow
    have d0 : w2.cell? ⟨Eb, 0, none⟩ = some vL := by rw [hE2.cell]; rfl
    have d1 : w2.cell? ⟨Eb, 1, none⟩ = some (.slice AA σ.args.length cA) := by rw [hE2.cell]; rfl
    have d2 : w2.cell? ⟨Eb, 2, none⟩ = some (.int .i64 σ.status) := by rw [hE2.cell]; rfl
    have d3 : w2.cell? ⟨Eb, 3, none⟩ = some vS := by rw [hE2.cell]; rfl
    have f3 : w2.frozen? ⟨Eb, 3, none⟩ = false := hE2.frozen 3
    have HSAY := hid (H.out.say ([110, 111, 116, 104, 105, 110, 103] : Str) HAT.out hown' hgrow (by simpa using hat'))
    have hEb2 := hE2.lt
    have HE3 := hid (hE2.set 3 v')
    obtain ⟨A', c', rfl, _, _⟩ := own_form hown'
    clear hE2 hgrow hown' hnil hat'
    go_wp2_with fail
    go_ret2
    exact ⟨rfl, HSAY.out⟩
  | some c =>
    obtain ⟨B, off, rfl, cur, ty, fz, hB, hty, hB1, hB2⟩ := hb
    obtain ⟨nm, no⟩ := c
    have hlen : nm.length ≤ 1000000000 := hnm _ rfl
    have hcat : ¬ (9223372036854775807 < 4 + nm.length) := by omega
    have b1 : w.cell? ⟨B, off + 1, none⟩ = some (.string ⟨nm.toArray⟩) := (cell_of_row w B (off + 1) cur ty fz hB).trans hB1
    have b2 : w.cell? ⟨B, off + 2, none⟩ = some (.bool no) := (cell_of_row w B (off + 2) cur ty fz hB).trans hB2
    have HB := hid hB
    have HB1 := hid hB1
    have HB2 := hid hB2
    have hBl := (Array.getElem?_eq_some_iff.1 hB).1
    have HTY := hid (And.intro hty hS)
    clear hty
    clear hB hB1 hB2
    go_enter Tryd.func104, Tryd.ntmps104
    go_wp2_with fail
    go_region_law ((refine step_append_own_at (by rfl) (.tmp 21) (.tmp 27) 24 (by rfl) 0 9 i0 (.string ⟨#[]⟩) 1 16 Tryd.underlying24 hi hz0 hz1 hz2 (by rfl) (by decide) vS σ.seen.length (txv σ.seen) (by rfl) (by exact own_alloc h5 _) ⟨w.heap.size, 0, none⟩ 1 1 [.string ⟨(115 :: 97 :: 121 :: 32 :: nm : Str).toArray⟩] (by rfl) (by rfl) (by exact cell_one_new w.drew _ _) (by simp [Value.oneCell']) (by unfold maxLen; omega) (by omega) (by simp) ?_; intro v' w3 hown' hgrow hat'; obtain ⟨A', c', rfl, d3, f3, HF⟩ := say_facts (115 :: 97 :: 121 :: 32 :: nm) (H.out.drewN 1) (HAT.out.drew) h5 hown' hgrow (by simpa using hat')))
    all_goals
      obtain ⟨hE, hK⟩ := HF.out
      obtain ⟨W, hW⟩ : ∃ W, W = w3.setCell ⟨Eb, 3, none⟩ (.slice A' (σ.seen.length + 1) c') := ⟨_, rfl⟩
      rw [← hW] at hE hK
      rw [← hW]
      have hK0 : Kw (ME S) w W := ((Kw.refl _ _).drewN 1).trans hK
      have hB' : W.heap[B]? = some (.cells cur ty fz) := hK0.keep _ _ _ _ (fun h => HTY.out.1.elim (fun e => absurd h.2 (by rw [e]; decide)) (fun e => HTY.out.2 B e h.1)) HB.out
      have d1 : W.cell? ⟨B, off + 1, none⟩ = some (.string ⟨nm.toArray⟩) := (cell_of_row W B (off + 1) cur ty fz hB').trans HB1.out
      have d2 : W.cell? ⟨B, off + 2, none⟩ = some (.bool no) := (cell_of_row W B (off + 2) cur ty fz hB').trans HB2.out
      have HEK := hid (And.intro hE hK0)
      clear hE hK hK0 hB' hW HF hown' hgrow hat' d3 f3
      cases no with
      | true =>
        go_wp2_with fail
        go_ret2
        exact ⟨rfl, HEK.out⟩
      | false =>
        go_wp2_with fail
        go_ret2
        exact ⟨rfl, HEK.out⟩
end Go.Proofs.YtklihdlfbhgpeaaDoor
