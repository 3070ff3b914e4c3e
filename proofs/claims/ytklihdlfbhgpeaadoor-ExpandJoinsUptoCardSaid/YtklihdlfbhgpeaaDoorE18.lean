/-
  The walk of expand, by induction on the depths left.
-/
import Derived.Test.YtklihdlfbhgpeaaDoorE17
namespace Go.Proofs.YtklihdlfbhgpeaaDoor
open Go.RowKit
set_option linter.unusedVariables false

theorem evalL_cons (rec : List PartV → EnvV → Out) (d : Bool) (p : PartV) (ps : List PartV) (F : Flds) (σ : EnvV) :
    evalL rec d (p :: ps) F σ = if (evalPart rec d p σ).e = 0 then evalL rec d ps (joinF F (evalPart rec d p σ).F) (evalPart rec d p σ).s else ⟨(evalPart rec d p σ).e, [], (evalPart rec d p σ).s⟩ := rfl
theorem take_split (ps : List PartV) {i : Nat} {p : PartV} (h : ps[i]? = some p) : ps = ps.take i ++ p :: ps.drop (i + 1) ∧ ps.take (i + 1) = ps.take i ++ [p] := by
  obtain ⟨hi, e⟩ := List.getElem?_eq_some_iff.1 h
  constructor
  · rw [← e, ← List.drop_eq_getElem_cons hi, List.take_append_drop]
  · rw [List.take_succ_eq_append_getElem hi, e]
theorem evalL_next (rec : List PartV → EnvV → Out) (d : Bool) (ps : List PartV) {i : Nat} {p : PartV} (h : ps[i]? = some p) (σ : EnvV) (h0 : (evalL rec d (ps.take i) [[]] σ).e = 0) :
    (evalL rec d (ps.take (i + 1)) [[]] σ = if (evalPart rec d p (evalL rec d (ps.take i) [[]] σ).s).e = 0 then ⟨0, joinF (evalL rec d (ps.take i) [[]] σ).F (evalPart rec d p (evalL rec d (ps.take i) [[]] σ).s).F, (evalPart rec d p (evalL rec d (ps.take i) [[]] σ).s).s⟩ else ⟨(evalPart rec d p (evalL rec d (ps.take i) [[]] σ).s).e, [], (evalPart rec d p (evalL rec d (ps.take i) [[]] σ).s).s⟩) ∧
    ((evalPart rec d p (evalL rec d (ps.take i) [[]] σ).s).e ≠ 0 → evalL rec d ps [[]] σ = ⟨(evalPart rec d p (evalL rec d (ps.take i) [[]] σ).s).e, [], (evalPart rec d p (evalL rec d (ps.take i) [[]] σ).s).s⟩) := by
  obtain ⟨e1, e2⟩ := take_split ps h
  constructor
  · rw [e2, evalL_append, if_pos h0, evalL_cons]
    rfl
  · intro hne
    conv => lhs; rw [e1]
    rw [evalL_append, if_pos h0, evalL_cons, if_neg hne]
theorem cost_take (n : Nat) (ps : List PartV) {i : Nat} {p : PartV} (h : ps[i]? = some p) : ((ps.take i).map fun p => costP p + costW n p.word).sum + (costP p + costW n p.word) ≤ costW (n + 1) ps := by
  obtain ⟨e1, _⟩ := take_split ps h
  have : costW (n + 1) ps = ((ps.take i ++ p :: ps.drop (i + 1)).map fun p => costP p + costW n p.word).sum := by rw [← e1]; rfl
  rw [this, List.map_append, List.sum_append, List.map_cons, List.sum_cons]
  omega
/-- The fields handed back. -/
theorem FieldsAt.out {w : World} {T P : Nat → Prop} {fb Eb : Nat} {F : Flds} {deep : Int} (h : FieldsAt w T fb Eb F deep) (hT : ∀ k, T k → P k) :
    ∃ A c, F.length ≤ c ∧ w.cell? ⟨fb, 1, none⟩ = some (.slice A F.length c) ∧ fb < w.heap.size ∧ FldOut w P (.slice A F.length F.length) F := by
  obtain ⟨up, own, v, X, y, prev, lv, h1, h2, h3, h4, h5, h6, h7⟩ := h
  obtain ⟨A, c, rfl, _, hbl⟩ := own_form h3
  obtain ⟨AL, cL, rfl, _, hbl2⟩ := own_form h5
  have m1 : RowsAt w P prev X := h7.mono fun b _ hh => hT b hh.1
  have m2 : RowsAt w P (prev ++ [.slice AL y.length cL]) (X ++ [y]) := RowsAt.snoc ⟨AL, cL, rfl, TR.of_own h5, fun _ b off e => hT b (h6 b (hbl2 b off e))⟩ m1
  refine ⟨A, c, own_cap h3, by rw [h2.cell]; rfl, h2.lt, ⟨A, F.length, _, rfl, TR.of_own h3, fun _ b off e => hT b (h4 b (hbl b off e)), by rw [h1]; exact m2⟩⟩
theorem enter19 (args : Array Value) (w : World) : (callFunc 19 args).run Tryd.prog w = .ok (.enter 19 args) w := by kernel_rfl
theorem store_func {P : Program} {w : World} {A : Addr} {fn : Fn} {f g : Array Value} {u : Value} (hc : w.cell? A = some u) (hz : w.frozen? A = false) : (store A (.func fn f g)).run P w = .ok () (w.setCell A (.func fn f g)) := by
  rw [run_store P w A _ .plain rfl]
  simp [hc, hz]
theorem Kw.thenA {S : Nat → Prop} {w wa w' : World} (h : Kw (ME S) w wa) (k : Kw (MA S fun k => w.heap.size ≤ k) wa w') : Kw (ME S) w w' :=
  ⟨k.os.trans h.os, k.tape.trans h.tape, k.output.trans h.output, Nat.le_trans h.size k.size,
    fun i cs t fz hm hh => k.keep i cs t fz (fun hN => hN.elim hm fun hT => by have := hT.1; have := (Array.getElem?_eq_some_iff.1 hh).1; omega) (h.keep i cs t fz hm hh), fun i o ho hh => k.other i o ho (h.other i o ho hh)⟩
theorem evalPart_bad (rec : List PartV → EnvV → Out) (d : Bool) (p : PartV) (σ : EnvV) (h : p.kind < 0 ∨ 3 < p.kind) : evalPart rec d p σ = ⟨2, [], σ⟩ := by
  unfold evalPart
  rw [if_neg (by omega), if_neg (by omega), if_neg (by omega), if_neg (by omega)]
def partNum : Nat → Nat
  | 0 => 19 | 1 => 20 | 2 => 21 | _ => 22
/-- One part. -/
theorem part_any [Inhabited LowT] (n : Nat) (hE : ExpOk n) (S T : Nat → Prop) (Eb fb : Nat) (σ : EnvV) (F : Flds) (deep : Int) (p : PartV) (A : Option Addr) (c : Nat) (B : Option Addr) (w : World) (h : St w S T Eb fb σ F deep) (hb : PB n p σ F) (hs : costW n p.word ≤ 99999999) (hp : PAt n w A p.word) (hB : BodyAt w B p.body)
    (hd : deep + 1 = 21 - (n : Int)) (hd0 : 0 ≤ deep) (hd1 : deep ≤ 20) (j : Nat) (hj : p.kind = j) (hj3 : j ≤ 3) :
    Calls Tryd.prog (partNum j) #[.pointer (some ⟨fb, 0, none⟩), pv p A c B] w (DoPost S T Eb fb deep F w (evalPart (evalW n) (decide (n < 19)) p σ)) := by
  have hwt : wtF F ≤ 400000000 := by have := hb.wt; omega
  have hdd : decide (1 < deep) = decide (n < 19) := by
    rw [decide_eq_decide]; omega
  have h4 : j = 0 ∨ j = 1 ∨ j = 2 ∨ j = 3 := by omega
  unfold evalPart
  rcases h4 with rfl | rfl | rfl | rfl
  · rw [if_pos (show p.kind = 0 from hj)]
    refine (lit_any S T Eb fb σ F deep p A c B w h hwt).mono ?_
    rintro e w' ⟨h1, h2, h3⟩
    rw [hdd] at h2
    exact ⟨h1, _, h2, fun _ => rfl, h3⟩
  · rw [if_neg (by rw [hj]; decide), if_pos (show p.kind = 1 from hj)]
    refine (quoted_any S T Eb fb σ F deep p A c B w h hwt).mono ?_
    rintro e w' ⟨h1, h2, h3⟩
    exact ⟨h1, _, h2, fun _ => rfl, h3⟩
  · rw [if_neg (by rw [hj]; decide), if_neg (by rw [hj]; decide), if_pos (show p.kind = 2 from hj)]
    exact param_any n hE S T Eb fb σ F deep p A c B w h hb hs hp hd hd0 hd1
  · rw [if_neg (by rw [hj]; decide), if_neg (by rw [hj]; decide), if_neg (by rw [hj]; decide), if_pos (show p.kind = 3 from hj)]
    exact subst_any' n S T Eb fb σ F deep p A c B w h hb hB
set_option maxRecDepth 100000 in
set_option maxHeartbeats 4000000 in
theorem exp_zero [Inhabited LowT] : ExpOk 0 := by
  intro S Eb σ ps A c d w hE hS0 hT hP hW hd
  have hd20 : (20 : Int) < d := by omega
  have HE := hid hE
  clear hE
  go_enter Tryd.func18, Tryd.ntmps18
  go_wp2_with fail
  go_ret2
  exact ⟨_, rfl, fun h => absurd h (by simp [evalW]), fun _ => rfl, HE.out, Kw.refl _ _⟩
set_option maxRecDepth 100000 in
set_option maxHeartbeats 4000000 in
theorem exp_succ [Inhabited LowT] (n : Nat) (hn : n + 1 ≤ 20) (ih : ExpOk n) : ExpOk (n + 1) := by
  intro S Eb σ ps A c d w hE hS0 hT hP hW hd
  have hd20 : ¬ (20 : Int) < d := by omega
  have HE := hid hE
  have HT := hid hT
  have HP := hid hP
  have HW := hid hW
  have IH := hid ih
  have hlen : ps.length ≤ 100000000 := by
    have h1 := hW.wt
    have : ∀ l : List PartV, l.length ≤ (l.map fun p => costP p + costW n p.word).sum := by
      intro l
      induction l with
      | nil => simp
      | cons a r ih =>
        have h3 : 1000 ≤ costP a := by unfold costP; omega
        rw [List.map_cons, List.sum_cons, List.length_cons]
        omega
    have h2 : ps.length ≤ costW (n + 1) ps := this ps
    omega
  have hlenI : (ps.length : Int) ≤ 100000000 := by omega
  clear hE hT hP hW ih
  go_enter Tryd.func18, Tryd.ntmps18
  have HD := hid hd
  clear hd
  go_wp2_with fail
  obtain ⟨W, hW⟩ : ∃ W, W = ((w.alloc (.cells #[.slice none 0 0] 38)).alloc (.cells #[.iface 28 (.pointer (some ⟨Eb, 0, none⟩)), .slice (some ⟨w.heap.size, 0, none⟩) 1 1, .int .i64 d] 69)).alloc (.cells #[.nilFunc, .nilFunc, .nilFunc, .nilFunc] 71) := ⟨_, rfl⟩
  have hBW : Below w.heap.size w W := by rw [hW]; exact (((Below.refl _ _).alloc (Nat.le_refl _) _).alloc (by simp) _).alloc (by simp; omega) _
  have hA38 : At W w.heap.size 38 #[.slice none 0 0] := by rw [hW]; exact At.alloc (At.alloc (heap_alloc_new w _) _) _
  have hA69 : At W (w.heap.size + 1) 69 #[.iface 28 (.pointer (some ⟨Eb, 0, none⟩)), .slice (some ⟨w.heap.size, 0, none⟩) 1 1, .int .i64 d] := by
    rw [hW]
    have := heap_alloc_new (w.alloc (.cells #[.slice none 0 0] 38)) (.cells #[.iface 28 (.pointer (some ⟨Eb, 0, none⟩)), .slice (some ⟨w.heap.size, 0, none⟩) 1 1, .int .i64 d] 69)
    simp only [World.size_alloc] at this
    exact At.alloc this _
  have hA71 : At W (w.heap.size + 1 + 1) 71 #[.nilFunc, .nilFunc, .nilFunc, .nilFunc] := by
    rw [hW]
    have := heap_alloc_new ((w.alloc (.cells #[.slice none 0 0] 38)).alloc (.cells #[.iface 28 (.pointer (some ⟨Eb, 0, none⟩)), .slice (some ⟨w.heap.size, 0, none⟩) 1 1, .int .i64 d] 69)) (.cells #[.nilFunc, .nilFunc, .nilFunc, .nilFunc] 71)
    simp only [World.size_alloc] at this
    exact this
  rw [← hW]
  clear hW
  obtain ⟨W1, hW1⟩ : ∃ W1, W1 = W.setCell ⟨w.heap.size + 1 + 1, 0, none⟩ (mv 19 (w.heap.size + 1)) := ⟨_, rfl⟩
  obtain ⟨W2, hW2⟩ : ∃ W2, W2 = W1.setCell ⟨w.heap.size + 1 + 1, 1, none⟩ (mv 20 (w.heap.size + 1)) := ⟨_, rfl⟩
  obtain ⟨W3, hW3⟩ : ∃ W3, W3 = W2.setCell ⟨w.heap.size + 1 + 1, 2, none⟩ (mv 21 (w.heap.size + 1)) := ⟨_, rfl⟩
  obtain ⟨W4, hW4⟩ : ∃ W4, W4 = W3.setCell ⟨w.heap.size + 1 + 1, 3, none⟩ (mv 22 (w.heap.size + 1)) := ⟨_, rfl⟩
  have hF1 : At W1 (w.heap.size + 1 + 1) 71 #[mv 19 (w.heap.size + 1), .nilFunc, .nilFunc, .nilFunc] := by rw [hW1]; exact hA71.set 0 _
  have hs1 : (store ⟨w.heap.size + 1 + 1, 0, none⟩ (mv 19 (w.heap.size + 1))).run Tryd.prog W = .ok () W1 := by rw [hW1]; exact store_func (u := .nilFunc) (by rw [hA71.cell]; rfl) (hA71.frozen 0)
  have hF2 : At W2 (w.heap.size + 1 + 1) 71 #[mv 19 (w.heap.size + 1), mv 20 (w.heap.size + 1), .nilFunc, .nilFunc] := by rw [hW2]; exact hF1.set 1 _
  have hs2 : (store ⟨w.heap.size + 1 + 1, 1, none⟩ (mv 20 (w.heap.size + 1))).run Tryd.prog W1 = .ok () W2 := by rw [hW2]; exact store_func (u := .nilFunc) (by rw [hF1.cell]; rfl) (hF1.frozen 1)
  have hF3 : At W3 (w.heap.size + 1 + 1) 71 #[mv 19 (w.heap.size + 1), mv 20 (w.heap.size + 1), mv 21 (w.heap.size + 1), .nilFunc] := by rw [hW3]; exact hF2.set 2 _
  have hs3 : (store ⟨w.heap.size + 1 + 1, 2, none⟩ (mv 21 (w.heap.size + 1))).run Tryd.prog W2 = .ok () W3 := by rw [hW3]; exact store_func (u := .nilFunc) (by rw [hF2.cell]; rfl) (hF2.frozen 2)
  have hF4 : At W4 (w.heap.size + 1 + 1) 71 #[mv 19 (w.heap.size + 1), mv 20 (w.heap.size + 1), mv 21 (w.heap.size + 1), mv 22 (w.heap.size + 1)] := by rw [hW4]; exact hF3.set 3 _
  have hs4 : (store ⟨w.heap.size + 1 + 1, 3, none⟩ (mv 22 (w.heap.size + 1))).run Tryd.prog W3 = .ok () W4 := by rw [hW4]; exact store_func (u := .nilFunc) (by rw [hF3.cell]; rfl) (hF3.frozen 3)
  have hk1 : Kw (fun k t => k = w.heap.size + 1 + 1 ∧ t = 71) W W1 := by rw [hW1]; exact (Kw.refl _ _).set hA71 ⟨rfl, rfl⟩ _ _
  have hk2 : Kw (fun k t => k = w.heap.size + 1 + 1 ∧ t = 71) W W2 := by rw [hW2]; exact hk1.set hF1 ⟨rfl, rfl⟩ _ _
  have hk3 : Kw (fun k t => k = w.heap.size + 1 + 1 ∧ t = 71) W W3 := by rw [hW3]; exact hk2.set hF2 ⟨rfl, rfl⟩ _ _
  have hk4 : Kw (fun k t => k = w.heap.size + 1 + 1 ∧ t = 71) W W4 := by rw [hW4]; exact hk3.set hF3 ⟨rfl, rfl⟩ _ _
  clear hW1 hW2 hW3 hW4
  simp only [hs1, hs2, hs3, hs4, Result.andThen_ok]
  have hBW4 : Below w.heap.size w W4 := hBW.trans (hk4.toBelow hBW.size fun k t h => by omega)
  have hA69' := hk4.at_ hA69 (fun h => absurd h.2 (by decide))
  have hA38' := hk4.at_ hA38 (fun h => absurd h.2 (by decide))
  have HDO := hid hF4
  have hfl : FieldsAt W4 (fun k => w.heap.size ≤ k) (w.heap.size + 1) Eb [[]] d := by
    refine ⟨fun k hk => Nat.le_trans hBW4.size hk, by omega, .slice (some ⟨w.heap.size, 0, none⟩) 1 1, [], [], [], .slice none 0 0, rfl, hA69', ⟨rfl, .inr ⟨w.heap.size, 1, _, rfl, Nat.zero_le _, hA38', by decide, by unfold maxLen; omega, rfl, rfl⟩⟩, fun r hr => ?_, World.ownsRow_nil _ _ _ _, fun r hr => (by cases hr), trivial⟩
    have : w.heap.size = r := by simpa [Value.ownBlock] using hr
    omega
  have hpos : lowN < w.heap.size := by
    have h0 : ¬ Eb ≤ lowN := fun hk => hS0 Eb hk HE.out.own
    obtain ⟨vL, AA, cA, vS, h1, _⟩ := HE.out.at_
    have := h1.lt
    omega
  have HST := hid (St.mk (HE.out.below hBW4) hfl (HT.out.below hBW4) hS0 (fun k hk => show ¬ (w.heap.size ≤ k) by omega))
  have HBW := hid hBW4
  clear hk1 hk2 hk3 hk4 hs1 hs2 hs3 hs4 hF1 hF2 hF3 hF4 hA69 hA38 hA71 hA69' hA38' hfl hBW4 hBW
  have HN := hid hn
  clear hn hS0 hlen
  go_wp2_with fail
  obtain ⟨E, hE⟩ : ∃ E : Nat → Out, E = fun i => evalL (evalW n) (decide (n < 19)) (ps.take i) [[]] σ := ⟨_, rfl⟩
  have HEE := hid hE
  go_loopg [31] ps.length (fun m v31 wr => ∃ i : Nat, m + i = ps.length ∧ v31 = .int .i64 i ∧ Hid ((E i).e = 0 ∧ St wr S (fun k => w.heap.size ≤ k) Eb (w.heap.size + 1) (E i).s (E i).F d ∧ Kw (ME S) w wr ∧ At wr (w.heap.size + 1 + 1) 71 #[mv 19 (w.heap.size + 1), mv 20 (w.heap.size + 1), mv 21 (w.heap.size + 1), mv 22 (w.heap.size + 1)]))
  case atStart => exact ⟨0, rfl, rfl, hid ⟨by rw [hE]; rfl, by rw [hE]; exact HST.out, Kw.below HBW.out, HDO.out⟩⟩
  case round =>
    obtain ⟨i, hm, rfl, HI⟩ := hrel
    have HM := hid hm
    clear hm hE
    by_cases hi : i < ps.length
    · have hiI : (i : Int) < (ps.length : Int) := by omega
      obtain ⟨p, hpi⟩ : ∃ p, ps[i]? = some p := ⟨ps[i], List.getElem?_eq_getElem hi⟩
      obtain ⟨b, off, cur, fz, rfl, hb, hc⟩ := (HP.out.kw HI.out.2.2.1 (fun _ h => absurd h.2 (by decide)) (fun _ h => absurd h.2 (by decide)) (fun k t hk h => HI.out.2.1.S0 k hk h.1) : PAt (n + 1) wr A ps) (by omega)
      obtain ⟨A', c', B, hcl, hpw, hbody⟩ := hc i hi p hpi
      have cellj : ∀ j u, (pcs p A' c' B)[j]? = some u → wr.cell? ⟨b, off + i * 6 + j, none⟩ = some u := fun j u hj => (cell_of_row wr b _ cur 47 fz hb).trans (hcl j u hj)
      have x0 := cellj 0 _ rfl
      have x1 := cellj 1 _ rfl
      have x2 := cellj 2 _ rfl
      have x3 := cellj 3 _ rfl
      have x4 := cellj 4 _ rfl
      have x5 := cellj 5 _ rfl
      rw [Nat.add_zero] at x0
      have hPA := hid (And.intro hpw hbody)
      have HPI := hid hpi
      have hbl := (Array.getElem?_eq_some_iff.1 hb).1
      clear cellj hcl hpw hbody hc hb hpi
      by_cases hbad : p.kind < 0 ∨ 3 < p.kind
      · have HBAD := hid hbad
        rcases hbad with hk0 | hk3
        · go_wp2_with fail
          go_ret2
          have h0 : (evalL (evalW n) (decide (n < 19)) (ps.take i) [[]] σ).e = 0 := by have := HI.out.1; rw [HEE.out] at this; exact this
          have hnx := (evalL_next (evalW n) (decide (n < 19)) ps HPI.out σ h0).2
          rw [evalPart_bad _ _ _ _ HBAD.out] at hnx
          have hev : evalW (n + 1) ps σ = ⟨2, [], (E i).s⟩ := by
            rw [HEE.out]
            exact hnx (by simp)
          rw [hev]
          exact ⟨_, rfl, fun h => absurd h (by simp), fun _ => rfl, (HI.out.2.1.alloc _).env, HI.out.2.2.1.alloc _⟩
        · have hk0 : ¬ p.kind < 0 := by omega
          go_wp2_with fail
          go_ret2
          have h0 : (evalL (evalW n) (decide (n < 19)) (ps.take i) [[]] σ).e = 0 := by have := HI.out.1; rw [HEE.out] at this; exact this
          have hnx := (evalL_next (evalW n) (decide (n < 19)) ps HPI.out σ h0).2
          rw [evalPart_bad _ _ _ _ HBAD.out] at hnx
          have hev : evalW (n + 1) ps σ = ⟨2, [], (E i).s⟩ := by
            rw [HEE.out]
            exact hnx (by simp)
          rw [hev]
          exact ⟨_, rfl, fun h => absurd h (by simp), fun _ => rfl, (HI.out.2.1.alloc _).env, HI.out.2.2.1.alloc _⟩
      · obtain ⟨j, hj⟩ : ∃ j : Nat, p.kind = j := ⟨p.kind.toNat, by omega⟩
        have hj3 : j ≤ 3 := by omega
        have hjI : (j : Int) ≤ 3 := by omega
        have hj0 : ¬ (j : Int) < 0 := by omega
        have hj4 : ¬ 3 < (j : Int) := by omega
        clear hbad
        obtain ⟨hE0, hSt, hKw, hA71⟩ := HI.out
        have hEi : E i = evalL (evalW n) (decide (n < 19)) (ps.take i) [[]] σ := by rw [HEE.out]
        have hbd := evalL_bd (evalW n) (decide (n < 19)) (costW n) (evalW_bd n) (ps.take i) [[]] σ HW.out.ok
        rw [← hEi] at hbd
        have hct := cost_take n ps HPI.out
        have hw1 : wtF ([[]] : Flds) = 1 := by simp [wtF, wtR]
        rw [hw1] at hbd
        have hPB : PB n p (E i).s (E i).F := by
          obtain ⟨b1, b2, b3, b4, _⟩ := hbd
          have q1 := HW.out.wt
          have q2 := HW.out.seen
          have q3 := HW.out.vars
          exact ⟨b1, by omega, by omega, by omega⟩
        have hsub : costW n p.word ≤ 99999999 := by have q1 := HW.out.wt; omega
        obtain ⟨num, hnum⟩ : ∃ num : Nat, num = partNum j := ⟨_, rfl⟩
        have harr : ∀ V, At V (w.heap.size + 1 + 1) 71 #[mv 19 (w.heap.size + 1), mv 20 (w.heap.size + 1), mv 21 (w.heap.size + 1), mv 22 (w.heap.size + 1)] → V.cell? ⟨w.heap.size + 1 + 1, j, none⟩ = some (mv num (w.heap.size + 1)) := by
          intro V hV
          rw [hV.cell, hnum]
          have h4 : j = 0 ∨ j = 1 ∨ j = 2 ∨ j = 3 := by omega
          rcases h4 with rfl | rfl | rfl | rfl <;> rfl
        have hen : ∀ (args : Array Value) (V : World), (callFunc num args).run Tryd.prog V = .ok (.enter num args) V := by
          rw [hnum]
          have h4 : j = 0 ∨ j = 1 ∨ j = 2 ∨ j = 3 := by omega
          rcases h4 with rfl | rfl | rfl | rfl <;> (intro args V; kernel_rfl)
        have hpart : ∀ V, St V S (fun k => w.heap.size ≤ k) Eb (w.heap.size + 1) (E i).s (E i).F d → PAt n V A' p.word → BodyAt V B p.body →
            Calls Tryd.prog num #[.pointer (some ⟨w.heap.size + 1, 0, none⟩), pv p A' c' B] V (DoPost S (fun k => w.heap.size ≤ k) Eb (w.heap.size + 1) d (E i).F V (evalPart (evalW n) (decide (n < 19)) p (E i).s)) := fun V h1 h2 h3 => by
          rw [hnum]
          have q1 := HD.out
          have q2 := HN.out
          exact part_any n IH.out S _ Eb (w.heap.size + 1) (E i).s (E i).F d p A' c' B V h1 hPB hsub h2 h3 (by omega) (by omega) (by omega) j hj hj3
        have c71 := harr wr hA71
        have hl71 := hA71.lt
        have HPART := hid hpart
        have HJ := hid hj
        have HARR := hid harr
        rw [hj] at x0
        clear hpart harr hnum hbd hct hPB hsub hE0 hSt hKw hA71 hEi
        go_upto_region 10 with fail
        refine wp_region_quiet_tail 5 (by kernel_rfl) (by kernel_rfl) ?_
        simp only [List.take_succ_cons, List.take_zero, List.drop_succ_cons, List.drop_zero]
        repeat (go_big_quiet_step (fail))
        refine wpQuiet_nil ?_
        intro w2 hw'
        obtain ⟨nr, hw2⟩ := hw'
        have hB2 : Below wr.heap.size wr w2 := by rw [hw2]; exact below_drewN' ((Below.refl _ _).alloc (Nat.le_refl _) _) nr
        clear hw2
        have HB2 := hid hB2
        have HC := hid (HPART.out w2 (HI.out.2.1.below hB2) (hPA.out.1.below hB2) (hPA.out.2.kw (M := fun _ _ => False) (Kw.below hB2) (fun _ h => h) (fun _ _ _ h => h)))
        clear hB2
        go_wp2_with fail
        have HC2 := HC.out
        dsimp only [pv] at HC2
        rw [HJ.out] at HC2
        refine HC2.mono ?_
        rintro e w5 ⟨rfl, F', hS5, hF5, hK5⟩
        have hK6 : Kw (ME S) w w5 := (HI.out.2.2.1.trans (Kw.below HB2.out)).thenA hK5
        have hA5 := hK5.at_ (HI.out.2.2.2.below HB2.out HI.out.2.2.2.lt) (not_MA (by decide) (by decide))
        have HZ := hid (And.intro hS5 (And.intro hF5 (And.intro hK6 hA5)))
        have h0 : (evalL (evalW n) (decide (n < 19)) (ps.take i) [[]] σ).e = 0 := by have := HI.out.1; rw [HEE.out] at this; exact this
        obtain ⟨hn1, hn2⟩ := evalL_next (evalW n) (decide (n < 19)) ps HPI.out σ h0
        have hEi : E i = evalL (evalW n) (decide (n < 19)) (ps.take i) [[]] σ := by rw [HEE.out]
        have hEi1 : E (i + 1) = evalL (evalW n) (decide (n < 19)) (ps.take (i + 1)) [[]] σ := by rw [HEE.out]
        rw [← hEi] at hn1 hn2
        rw [← hEi1] at hn1
        have HN1 := hid hn1
        have HN2 := hid hn2
        clear hS5 hF5 hK6 hA5 hK5 hn1 hn2 hEi hEi1 HC HC2 h0 x0 x1 x2 x3 x4 x5 hen c71
        generalize evalPart (evalW n) (decide (n < 19)) p (E i).s = o at *
        obtain ⟨oe, oF, os⟩ := o
        dsimp only at HZ HN1 HN2
        by_cases hoe : oe = 0
        · subst hoe
          go_wp2_with fail
          go_roundg (gk - 1)
          case measure => go_light; have := HM.out; omega
          case rel =>
            go_light
            have := HM.out
            have hn1 := HN1.out
            rw [if_pos trivial] at hn1
            refine ⟨i + 1, by omega, int_cast (by omega), hid ?_⟩
            rw [hn1]
            exact ⟨rfl, by rw [← HZ.out.2.1 trivial]; exact HZ.out.1, HZ.out.2.2⟩
        · go_wp2_with fail
          go_ret2
          have hn2 : evalW (n + 1) ps σ = ⟨oe, [], os⟩ := HN2.out hoe
          rw [hn2]
          exact ⟨_, rfl, fun h => absurd h hoe, fun _ => rfl, HZ.out.1.env, HZ.out.2.2.1⟩
    · have := HM.out
      obtain rfl : i = ps.length := by omega
      obtain ⟨A1, c1, hc1, hcell, hlt, hout⟩ := HI.out.2.1.fld.out (P := fun b => w.heap.size ≤ b) (fun _ h => h)
      have hEi : E ps.length = evalW (n + 1) ps σ := by rw [HEE.out]; simp only [List.take_length]; rfl
      have hFn : (E ps.length).F.length ≤ 1000000000 := by
        have hbd := evalW_bd (n + 1) ps σ HW.out.ok
        have q1 := HW.out.wt
        have q2 := hbd.wt
        have q3 := len_wtF (E ps.length).F
        rw [hEi] at q3 ⊢
        omega
      have HO := hid hout
      have HEI := hid hEi
      clear hout hEi
      go_wp2_with fail
      refine (clip_any A1 _ c1 hc1 hFn wr).mono ?_
      rintro e w5 ⟨rfl, hw5⟩
      rw [hw5]
      clear hw5
      go_wp2_with fail
      go_ret2
      rw [← HEI.out]
      refine ⟨_, congrArg (fun x => Ending.returned (.tuple #[.slice A1 (E ps.length).F.length (E ps.length).F.length, .int .i64 x])) HI.out.1.symm, fun _ => HO.out, fun h => absurd HI.out.1 h, HI.out.2.1.env, HI.out.2.2.1⟩
theorem exp_ok [Inhabited LowT] : ∀ n, n ≤ 20 → ExpOk n
  | 0, _ => exp_zero
  | n + 1, h => exp_succ n h (exp_ok n (by omega))
end Go.Proofs.YtklihdlfbhgpeaaDoor
