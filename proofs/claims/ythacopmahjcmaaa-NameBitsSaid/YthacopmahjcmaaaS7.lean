/-
  The walk of the reference's block.
-/
import Derived.Test.YthacopmahjcmaaaS6
import Derived.Test.YthacopmahjcmaaaTail
namespace Go.Proofs.Ythacopmahjcmaaa
open Go.RowKit
set_option linter.unusedVariables false
attribute [local go_sem] w_xor w_and w_or w_add w_add' w_not

theorem run_index_at {P : Program} (t : TypeId) (ht : P.underlying t = some .string) (l : List UInt8) (i : Nat) (hi : i < l.length) (p : UInt8) (hp : l.getD i 0 = p) (j : Int) (hj : j = (i : Int)) (k : IntKind) (w : World) :
    (Instr.index t (.string ⟨l.toArray⟩) (.int k j)).run P w = .ok (.int .u8 (p.toNat : Int)) w := by
  subst hj hp
  rw [run_index_string (P := P) w t ⟨l.toArray⟩ k i ht, dif_pos ⟨by omega, by simp [ByteArray.size]; omega⟩]
  simp [List.getD, List.getElem?_eq_getElem hi]
  rfl
theorem turn_q (x : UInt32) (n : Nat) (h1 : 1 ≤ n) (h2 : n ≤ 31) (m : Int) (hm : m = (n : Int)) (w : World) : Calls Try.prog 57 #[.int .u32 x.toNat, .int .i64 m] w fun e w' => e = .returned (.int .u32 (rotr x n).toNat) ∧ ∃ m, w' = w.drewN m := by
  subst hm
  exact (turned_any x n h1 h2 w).mono fun _ _ ⟨he, hw⟩ => ⟨he, 1, hw⟩
/-- A quiet contract behind draws. -/
theorem quiet_on {P : Program} {f : FuncId} {args : Array Value} {w : World} {a n : Nat} {v : Value} (h : ∀ W : World, Calls P f args W fun e w' => e = .returned v ∧ ∃ m, w' = W.drewN m) :
    Calls P f args (w.drewN (a + n)) fun e w'' => e = .returned v ∧ ∃ m, w'' = w.drewN (a + m) :=
  (h _).mono fun _ _ ⟨he, m, hm⟩ => ⟨he, n + m, by rw [hm, World.drewN_drewN, Nat.add_assoc]⟩
theorem quiet_on0 {P : Program} {f : FuncId} {args : Array Value} {w : World} {n : Nat} {v : Value} (h : ∀ W : World, Calls P f args W fun e w' => e = .returned v ∧ ∃ m, w' = W.drewN m) :
    Calls P f args (w.drewN n) fun e w'' => e = .returned v ∧ ∃ m, w'' = w.drewN m :=
  (h _).mono fun _ _ ⟨he, m, hm⟩ => ⟨he, n + m, by rw [hm, World.drewN_drewN]⟩

set_option maxRecDepth 100000 in
set_option maxHeartbeats 4000000 in
theorem refBlock_any (hs : List UInt32) (hsl8 : hs.length = 8) (bs : List UInt8) (hbs : bs.length = 64) (w : World) :
    Calls Try.prog 35 #[.agg (wv hs).toArray, .string ⟨bs.toArray⟩, .agg (wv Kc).toArray] w fun e w' => e = .returned (.agg (wv (blockF hs bs)).toArray) ∧ Below w.heap.size w w' := by
  have hkl := Kc_len
  obtain ⟨kc, hkc⟩ : ∃ kc, kc = Kc := ⟨_, rfl⟩
  have HKC := hid hkc
  rw [← hkc] at hkl ⊢
  clear hkc
  go_enter Try.func35, Try.ntmps35
  go_wp2_with fail
  generalize hW : ((((w.alloc _).alloc _).alloc _).alloc _) = W1
  have hA1 : Ws W1 w.heap.size 42 hs := by rw [← hW]; exact (((At.new _ _ _).alloc _).alloc _).alloc _
  have hK : Ws W1 (w.heap.size + 1) 44 kc := by rw [← hW]; exact ((At.new' _ _ _ (by simp)).alloc _).alloc _
  have hA2 : Ws W1 (w.heap.size + 1 + 1) 42 (List.replicate 8 0) := by rw [← hW]; exact (At.new' _ _ _ (by simp)).alloc _
  have hA3 : Ws W1 (w.heap.size + 1 + 1 + 1) 44 (schedRow bs 0) := by rw [← hW]; exact At.new' _ _ _ (by simp)
  have hC : Below w.heap.size w W1 := by rw [← hW]; exact ((((Below.refl _ _).alloc (Nat.le_refl _) _).alloc (by simp) _).alloc (by simp; omega) _).alloc (by simp; omega) _
  clear hW
  go_loopg [8] 64 (fun m v8 wr => ∃ i : Nat, m + i = 64 ∧ v8 = .int .i64 i ∧ Ws wr w.heap.size 42 hs ∧ Ws wr (w.heap.size + 1) 44 kc ∧ Ws wr (w.heap.size + 1 + 1) 42 (List.replicate 8 0) ∧ Ws wr (w.heap.size + 1 + 1 + 1) 44 (schedRow bs i) ∧ Below w.heap.size w wr)
  case atStart => exact ⟨0, rfl, rfl, hA1, hK, hA2, hA3, hC⟩
  case round =>
    clear hA1 hK hA2 hA3 hC
    obtain ⟨i, hi, rfl, hA1, hK, hA2, hA3, hC⟩ := hrel
    have HI := hid hi
    by_cases hlt : i < 64
    · by_cases h16 : i < 16
      · obtain ⟨p0, hp0⟩ : ∃ p, bs.getD (4 * i) 0 = p := ⟨_, rfl⟩
        obtain ⟨p1, hp1⟩ : ∃ p, bs.getD (4 * i + 1) 0 = p := ⟨_, rfl⟩
        obtain ⟨p2, hp2⟩ : ∃ p, bs.getD (4 * i + 2) 0 = p := ⟨_, rfl⟩
        obtain ⟨p3, hp3⟩ : ∃ p, bs.getD (4 * i + 3) 0 = p := ⟨_, rfl⟩
        have c0 := fun W => run_index_at 9 Try.underlying9 bs (4 * i) (by omega) p0 hp0 (4 * (i : Int)) (by omega) .i64 W
        have c1 := fun W => run_index_at 9 Try.underlying9 bs (4 * i + 1) (by omega) p1 hp1 (4 * (i : Int) + 1) (by omega) .i64 W
        have c2 := fun W => run_index_at 9 Try.underlying9 bs (4 * i + 2) (by omega) p2 hp2 (4 * (i : Int) + 2) (by omega) .i64 W
        have c3 := fun W => run_index_at 9 Try.underlying9 bs (4 * i + 3) (by omega) p3 hp3 (4 * (i : Int) + 3) (by omega) .i64 W
        have e0 : IntKind.i64.wrap (4 * (i : Int)) = 4 * (i : Int) := IntWalk.i64_in _ (by omega)
        have e1 : IntKind.i64.wrap (4 * (i : Int) + 1) = 4 * (i : Int) + 1 := IntWalk.i64_in _ (by omega)
        have e2 : IntKind.i64.wrap (4 * (i : Int) + 2) = 4 * (i : Int) + 2 := IntWalk.i64_in _ (by omega)
        have e3 : IntKind.i64.wrap (4 * (i : Int) + 3) = 4 * (i : Int) + 3 := IntWalk.i64_in _ (by omega)
        have HP := hid (And.intro hp0 (And.intro hp1 (And.intro hp2 hp3)))
        have i0 : (0 : Int) ≤ (i : Int) := by omega
        have i16 : (i : Int) < 16 := by omega
        have i64 : (i : Int) < 64 := by omega
        clear hi hp0 hp1 hp2 hp3
        go_wp2_with fail
        go_still_tail 31, (by kernel_rfl)
        change wpList _ _ _ _ _ wr.drew
        rw [be4_walk]
        have hcl := Ws.has (At.drew hA3) i (by rw [schedRow_len _ _ (by omega)]; exact hlt)
        have hf := At.frozen (At.drew hA3) i
        have hst := Ws.store (At.drew hA3) i (be4 p0 p1 p2 p3)
        have hsw : be4 p0 p1 p2 p3 = schedWord bs (sched bs i) i := by
          obtain ⟨q0, q1, q2, q3⟩ := HP.out
          simp only [schedWord, h16, if_true, beAt, q0, q1, q2, q3]
        have HS : Hid (Ws (wr.drew.setCell ⟨w.heap.size + 1 + 1 + 1, i, none⟩ (.int .u32 ((be4 p0 p1 p2 p3).toNat : Int))) (w.heap.size + 1 + 1 + 1) 44 (schedRow bs (i + 1))) := by
          rw [← schedRow_set bs i hlt, ← hsw]; exact hst
        clear hst hsw
        generalize (schedRow bs i)[i]'(by rw [schedRow_len _ _ (by omega)]; exact hlt) = old at hcl
        clear e0 e1 e2 e3 c0 c1 c2 c3
        go_wp2_with fail
        go_roundg (gk - 1)
        case measure => go_light; have := HI.out; omega
        case rel =>
          go_light
          have := HI.out
          exact ⟨i + 1, by omega, int_cast (by omega), At.far (At.drew hA1) (by simp; omega) _, At.far (At.drew hK) (by simp) _, At.far (At.drew hA2) (by simp) _, HS.out, hC.drew.setCell (p := ⟨w.heap.size + 1 + 1 + 1, i, none⟩) (by simp; omega) _⟩
      · have hrow : ∀ k, k < i → wr.cell? ⟨w.heap.size + 1 + 1 + 1, k, none⟩ = some (.int .u32 (((sched bs i).getD k 0).toNat : Int)) := fun k hk => by
          have hl : k < (schedRow bs i).length := by rw [schedRow_len _ _ (by omega)]; omega
          have := hA3.has k hl
          have e := schedRow_get bs i k hk (by omega)
          rw [List.getElem?_eq_getElem hl] at e
          injection e with e
          rw [this, e]
        have c0 := hrow (i - 16) (by omega)
        have c1 := hrow (i - 15) (by omega)
        have c2 := hrow (i - 7) (by omega)
        have c3 := hrow (i - 2) (by omega)
        generalize hp0 : (sched bs i).getD (i - 16) 0 = p0 at c0
        generalize hp1 : (sched bs i).getD (i - 15) 0 = p1 at c1
        generalize hp2 : (sched bs i).getD (i - 7) 0 = p2 at c2
        generalize hp3 : (sched bs i).getD (i - 2) 0 = p3 at c3
        have HP := hid (And.intro hp0 (And.intro hp1 (And.intro hp2 hp3)))
        have n0 : ((i : Int) - 16).toNat = i - 16 := by omega
        have n1 : ((i : Int) - 15).toNat = i - 15 := by omega
        have n2 : ((i : Int) - 7).toNat = i - 7 := by omega
        have n3 : ((i : Int) - 2).toNat = i - 2 := by omega
        generalize i - 16 = j0 at c0 n0
        generalize i - 15 = j1 at c1 n1
        generalize i - 7 = j2 at c2 n2
        generalize i - 2 = j3 at c3 n3
        have s3 : (p1.toNat : Int) / 8 = ((wsr p1 3).toNat : Int) := w_shr p1 3 (by omega)
        have s10 : (p3.toNat : Int) / 1024 = ((wsr p3 10).toNat : Int) := w_shr p3 10 (by omega)
        have e0 : IntKind.i64.wrap ((i : Int) - 16) = (i : Int) - 16 := IntWalk.i64_in _ (by omega)
        have e1 : IntKind.i64.wrap ((i : Int) - 15) = (i : Int) - 15 := IntWalk.i64_in _ (by omega)
        have e2 : IntKind.i64.wrap ((i : Int) - 7) = (i : Int) - 7 := IntWalk.i64_in _ (by omega)
        have e3 : IntKind.i64.wrap ((i : Int) - 2) = (i : Int) - 2 := IntWalk.i64_in _ (by omega)
        have b16 : (16 : Int) ≤ (i : Int) := by omega
        have b15 : (15 : Int) ≤ (i : Int) := by omega
        have b7 : (7 : Int) ≤ (i : Int) := by omega
        have b2 : (2 : Int) ≤ (i : Int) := by omega
        have z0 : (0 : Int) ≤ (i : Int) - 16 := by omega
        have z1 : (0 : Int) ≤ (i : Int) - 15 := by omega
        have z2 : (0 : Int) ≤ (i : Int) - 7 := by omega
        have z3 : (0 : Int) ≤ (i : Int) - 2 := by omega
        have y0 : (i : Int) - 16 < 64 := by omega
        have y1 : (i : Int) - 15 < 64 := by omega
        have y2 : (i : Int) - 7 < 64 := by omega
        have y3 : (i : Int) - 2 < 64 := by omega
        have i0 : (0 : Int) ≤ (i : Int) := by omega
        have i64 : (i : Int) < 64 := by omega
        have hcl := Ws.has hA3 i (by rw [schedRow_len _ _ (by omega)]; exact hlt)
        have hf := At.frozen hA3 i
        generalize (schedRow bs i)[i]'(by rw [schedRow_len _ _ (by omega)]; exact hlt) = old at hcl
        have hsw : wa (wa (wa p0 (wx (wx (rotr p1 7) (rotr p1 18)) (wsr p1 3))) p2) (wx (wx (rotr p3 17) (rotr p3 19)) (wsr p3 10)) = schedWord bs (sched bs i) i := by
          obtain ⟨q0, q1, q2, q3⟩ := HP.out
          simp only [schedWord, h16, if_false, sg0, sg1, q0, q1, q2, q3]
        have HSW := hid hsw
        have h16' : ¬ (i : Int) < 16 := by omega
        clear hrow hi hp0 hp1 hp2 hp3 HP hsw
        go_wp2_with fail
        go_quiet (fail)
        go_wp2_with fail
        refine wp_region_quiet_tail 29 (by kernel_rfl) (by kernel_rfl) ?_
        simp only [List.take_succ_cons, List.take_zero, List.drop_succ_cons, List.drop_zero]
        repeat (go_big_quiet_step ((first | (go_at_call_of 57 (Value.int .i64 7); first | exact quiet_on (turn_q p1 7 (by decide) (by decide) 7 rfl) | exact quiet_on0 (turn_q p1 7 (by decide) (by decide) 7 rfl)) | (go_at_call_of 57 (Value.int .i64 18); first | exact quiet_on (turn_q p1 18 (by decide) (by decide) 18 rfl) | exact quiet_on0 (turn_q p1 18 (by decide) (by decide) 18 rfl)) | (go_at_call_of 57 (Value.int .i64 17); first | exact quiet_on (turn_q p3 17 (by decide) (by decide) 17 rfl) | exact quiet_on0 (turn_q p3 17 (by decide) (by decide) 17 rfl)) | (go_at_call_of 57 (Value.int .i64 19); first | exact quiet_on (turn_q p3 19 (by decide) (by decide) 19 rfl) | exact quiet_on0 (turn_q p3 19 (by decide) (by decide) 19 rfl)))))
        refine wpQuiet_nil ?_
        intro w2 hw'
        obtain ⟨nr, hw2⟩ := hw'
        have hA1 : Ws w2 w.heap.size 42 hs := by rw [hw2]; exact At.drewN (At.drewN hA1 _) _
        have hK : Ws w2 (w.heap.size + 1) 44 kc := by rw [hw2]; exact At.drewN (At.drewN hK _) _
        have hA2 : Ws w2 (w.heap.size + 1 + 1) 42 (List.replicate 8 0) := by rw [hw2]; exact At.drewN (At.drewN hA2 _) _
        have hA3 : Ws w2 (w.heap.size + 1 + 1 + 1) 44 (schedRow bs i) := by rw [hw2]; exact At.drewN (At.drewN hA3 _) _
        have hC : Below w.heap.size w w2 := by rw [hw2]; exact Below.drewN' (Below.drewN' hC _) _
        have hcl := Ws.has hA3 i (by rw [schedRow_len _ _ (by omega)]; exact hlt)
        have hf := At.frozen hA3 i
        generalize (schedRow bs i)[i]'(by rw [schedRow_len _ _ (by omega)]; exact hlt) = old' at hcl
        have hst := Ws.store hA3 i (schedWord bs (sched bs i) i)
        rw [schedRow_set bs i hlt, ← HSW.out] at hst
        have HS := hid hst
        clear hw2 hst e0 e1 e2 e3 n0 n1 n2 n3 s3 s10 c0 c1 c2 c3
        go_wp2_with fail
        go_roundg (gk - 1)
        case measure => go_light; have := HI.out; omega
        case rel =>
          go_light
          have := HI.out
          exact ⟨i + 1, by omega, int_cast (by omega), At.far hA1 (by simp; omega) _, At.far hK (by simp) _, At.far hA2 (by simp) _, HS.out, hC.setCell (p := ⟨w.heap.size + 1 + 1 + 1, i, none⟩) (by simp; omega) _⟩
    · obtain rfl : i = 64 := by omega
      rw [show ((64 : Nat) : Int) = 64 from rfl]
      rw [schedRow_end] at hA3
      have hsl := sched_len bs 64
      obtain ⟨sw, hsw⟩ : ∃ sw, sw = sched bs 64 := ⟨_, rfl⟩
      rw [← hsw] at hA3 hsl
      have HSW := hid hsw
      clear hi HI hlt hbs hsw
      have i8 : (Try.prog.info? 42).map (·.size) = some 8 := by kernel_rfl
      have iH : (Try.prog.info? 42).map (·.size) = some (wv hs).toArray.size := by rw [i8]; simp [wv_length, hsl8]
      go_wp2_with (first | (refine wpList_load_row rfl 42 (.tmp 3) rfl w.heap.size rfl 42 _ _ _ hA1 Try.underlying42 rfl iH ?_) | (refine wpList_store_row rfl 42 (.tmp 11) (.tmp 92) rfl wr.heap.size rfl _ rfl 42 _ (At.new _ _ _) iH (by simp [wv_length, hsl8]) (wv_one hs) ?_; intro w1 hV ho hz))
      rw [World.size_alloc] at hz
      have hA1' : Ws w1 w.heap.size 42 hs := ho.at_ (At.alloc hA1 _) (by have := hA1.lt; omega)
      have hK' : Ws w1 (w.heap.size + 1) 44 kc := ho.at_ (At.alloc hK _) (by have := hK.lt; omega)
      have hA2' : Ws w1 (w.heap.size + 1 + 1) 42 (List.replicate 8 0) := ho.at_ (At.alloc hA2 _) (by have := hA2.lt; omega)
      have hA3' : Ws w1 (w.heap.size + 1 + 1 + 1) 44 sw := ho.at_ (At.alloc hA3 _) (by have := hA3.lt; omega)
      have hC' : Below w.heap.size w w1 := (hC.alloc hC.size _).trans (ho.below hC.size (by have := hC.size; simp; omega))
      have hVV : Ws w1 wr.heap.size 42 hs := hV
      have hg1 : w.heap.size + 1 + 1 + 1 < wr.heap.size := hA3.lt
      clear hA1 hA2 hA3 hK hC ho hV
      obtain ⟨g, hg⟩ : ∃ g, g = wr.heap.size := ⟨_, rfl⟩
      rw [← hg] at hVV hg1 hz ⊢
      have HZ := hid hz
      clear hg hz
      go_loopg [12] 64 (fun m v12 wx => ∃ i : Nat, m + i = 64 ∧ v12 = .int .i64 i ∧ Ws wx w.heap.size 42 hs ∧ Ws wx (w.heap.size + 1) 44 kc ∧ Ws wx (w.heap.size + 1 + 1) 42 (List.replicate 8 0) ∧ Ws wx g 42 (rnds kc sw hs i) ∧ Ws wx (w.heap.size + 1 + 1 + 1) 44 sw ∧ Below w.heap.size w wx)
      case atStart => exact ⟨0, rfl, rfl, hA1', hK', hA2', hVV, hA3', hC'⟩
      case round =>
        clear hA1' hK' hA2' hVV hA3' hC'
        obtain ⟨i, hi, rfl, hA1, hK, hA2, hV, hA3, hC⟩ := hrel
        have HI := hid hi
        by_cases hlt : i < 64
        · have hvl : (rnds kc sw hs i).length = 8 := by rw [rnds_len]; exact hsl8
          have hnx : rnds kc sw hs (i + 1) = rnd (rnds kc sw hs i) (kc.getD i 0) (sw.getD i 0) := rfl
          obtain ⟨v0, v1, v2, v3, v4, v5, v6, v7, hv⟩ := eight _ hvl
          rw [hv] at hV hnx
          have q0 := hV.has 0 (by simp)
          have q1 := hV.has 1 (by simp)
          have q2 := hV.has 2 (by simp)
          have q3 := hV.has 3 (by simp)
          have q4 := hV.has 4 (by simp)
          have q5 := hV.has 5 (by simp)
          have q6 := hV.has 6 (by simp)
          have q7 := hV.has 7 (by simp)
          simp only [List.getElem_cons_zero, List.getElem_cons_succ] at q0 q1 q2 q3 q4 q5 q6 q7
          have qk := hK.has i (by omega)
          have qw := hA3.has i (by omega)
          have ek : kc.getD i 0 = kc[i]'(by omega) := by simp [List.getD, List.getElem?_eq_getElem (show i < kc.length by omega)]
          have ew : sw.getD i 0 = sw[i]'(by omega) := by simp [List.getD, List.getElem?_eq_getElem (show i < sw.length by omega)]
          rw [ek, ew] at hnx
          generalize kc[i]'(by omega) = ki at qk hnx
          generalize sw[i]'(by omega) = wi at qw hnx
          have HN := hid hnx
          have i0 : (0 : Int) ≤ (i : Int) := by omega
          have i64 : (i : Int) < 64 := by omega
          have hsg : IntKind.u32.signed = false := rfl
          clear hnx ek ew hvl hv hi
          go_wp2_with fail
          go_quiet (fail)
          go_wp2_with fail
          go_quiet ((first | (go_at_call_of 57 (Value.int .i64 6); first | exact quiet_on (turn_q v4 6 (by decide) (by decide) 6 rfl) | exact quiet_on0 (turn_q v4 6 (by decide) (by decide) 6 rfl)) | (go_at_call_of 57 (Value.int .i64 11); first | exact quiet_on (turn_q v4 11 (by decide) (by decide) 11 rfl) | exact quiet_on0 (turn_q v4 11 (by decide) (by decide) 11 rfl)) | (go_at_call_of 57 (Value.int .i64 25); first | exact quiet_on (turn_q v4 25 (by decide) (by decide) 25 rfl) | exact quiet_on0 (turn_q v4 25 (by decide) (by decide) 25 rfl))))
          go_wp2_with fail
          go_quiet ((first | (go_at_call_of 57 (Value.int .i64 2); first | exact quiet_on (turn_q v0 2 (by decide) (by decide) 2 rfl) | exact quiet_on0 (turn_q v0 2 (by decide) (by decide) 2 rfl)) | (go_at_call_of 57 (Value.int .i64 13); first | exact quiet_on (turn_q v0 13 (by decide) (by decide) 13 rfl) | exact quiet_on0 (turn_q v0 13 (by decide) (by decide) 13 rfl)) | (go_at_call_of 57 (Value.int .i64 22); first | exact quiet_on (turn_q v0 22 (by decide) (by decide) 22 rfl) | exact quiet_on0 (turn_q v0 22 (by decide) (by decide) 22 rfl))))
          generalize hw2 : ((wr.drewN _).drewN _).drewN _ = w2
          have hA1 : Ws w2 w.heap.size 42 hs := by rw [← hw2]; exact At.drewN (At.drewN (At.drewN hA1 _) _) _
          have hK : Ws w2 (w.heap.size + 1) 44 kc := by rw [← hw2]; exact At.drewN (At.drewN (At.drewN hK _) _) _
          have hA2 : Ws w2 (w.heap.size + 1 + 1) 42 (List.replicate 8 0) := by rw [← hw2]; exact At.drewN (At.drewN (At.drewN hA2 _) _) _
          have hA3 : Ws w2 (w.heap.size + 1 + 1 + 1) 44 sw := by rw [← hw2]; exact At.drewN (At.drewN (At.drewN hA3 _) _) _
          have hV : Ws w2 g 42 [v0, v1, v2, v3, v4, v5, v6, v7] := by rw [← hw2]; exact At.drewN (At.drewN (At.drewN hV _) _) _
          have hC : Below w.heap.size w w2 := by rw [← hw2]; exact Below.drewN' (Below.drewN' (Below.drewN' hC _) _) _
          clear hw2 qk qw i0 i64 hsg
          have q0 := hV.has 0 (by simp)
          have q1 := hV.has 1 (by simp)
          have q2 := hV.has 2 (by simp)
          have q3 := hV.has 3 (by simp)
          have q4 := hV.has 4 (by simp)
          have q5 := hV.has 5 (by simp)
          have q6 := hV.has 6 (by simp)
          simp only [List.getElem_cons_zero, List.getElem_cons_succ] at q0 q1 q2 q3 q4 q5 q6
          go_wp2_with (refine wpList_store_row rfl 42 (.tmp 11) (.tmp 174) rfl g rfl _ rfl 42 _ hV i8 rfl (by simp [Value.oneCell']) ?_; intro w4 hV4 ho4 hz4)
          go_roundg (gk - 1)
          case measure => go_light; have := HI.out; omega
          case rel =>
            go_light
            have := HI.out
            have hgl := hA3.lt
            exact ⟨i + 1, by omega, int_cast (by omega), ho4.at_ hA1 (by omega), ho4.at_ hK (by omega), ho4.at_ hA2 (by omega), by rw [HN.out]; exact hV4, ho4.at_ hA3 (by omega), hC.trans (ho4.below (by omega) (by omega))⟩
        · obtain rfl : i = 64 := by omega
          rw [show ((64 : Nat) : Int) = 64 from rfl]
          have hvl : (rnds kc sw hs 64).length = 8 := by rw [rnds_len]; exact hsl8
          obtain ⟨v, hv⟩ : ∃ v, v = rnds kc sw hs 64 := ⟨_, rfl⟩
          rw [← hv] at hV hvl
          have HV := hid hv
          clear hi HI hlt hA3 hK hv
          go_wp2_with fail
          go_loopg [17] 8 (fun m v17 wx => ∃ i : Nat, m + i = 8 ∧ v17 = .int .i64 i ∧ Ws wx w.heap.size 42 (accW hs v i) ∧ Ws wx (w.heap.size + 1 + 1) 42 (List.replicate 8 0) ∧ Ws wx g 42 v ∧ Below w.heap.size w wx)
          case atStart => exact ⟨0, rfl, rfl, hA1, hA2, hV, hC⟩
          case round =>
            clear hA1 hA2 hV hC
            obtain ⟨i, hi, rfl, hA1, hA2, hV, hC⟩ := hrel
            have HI := hid hi
            by_cases hlt : i < 8
            · have q0 := hA1.has i (by rw [accW_len _ _ _ (by omega) (by omega)]; omega)
              rw [accW_at hs v i (by omega) (by omega)] at q0
              have q1 := hV.has i (by omega)
              have hf := At.frozen (At.drew hA1) i
              have hst := Ws.store (At.drew hA1) i (wa (hs[i]'(by omega)) (v[i]'(by omega)))
              rw [accW_set hs v i (by omega) (by omega)] at hst
              generalize hs[i]'(by omega) = x at q0 hst
              generalize v[i]'(by omega) = y at q1 hst
              have q2 : wr.drew.cell? ⟨w.heap.size, i, none⟩ = some (.int .u32 (x.toNat : Int)) := q0
              have HST := hid hst
              have i0 : (0 : Int) ≤ (i : Int) := by omega
              have i8' : (i : Int) < 8 := by omega
              clear hi hst
              go_wp2_with fail
              go_still_tail 9, (by kernel_rfl)
              change wpList _ _ _ _ _ wr.drew
              go_wp2_with fail
              go_roundg (gk - 1)
              case measure => go_light; have := HI.out; omega
              case rel =>
                go_light
                have := HI.out
                exact ⟨i + 1, by omega, int_cast (by omega), HST.out, At.far (At.drew hA2) (by simp; omega) _, At.far (At.drew hV) (by simp; omega) _, hC.drew.setCell (p := ⟨w.heap.size, i, none⟩) (by simp) _⟩
            · obtain rfl : i = 8 := by omega
              rw [show ((8 : Nat) : Int) = 8 from rfl]
              rw [accW_end hs v (by omega) (by omega)] at hA1
              have hal : (addW hs v).length = 8 := by simp [addW]; omega
              obtain ⟨r, hr⟩ : ∃ r, r = addW hs v := ⟨_, rfl⟩
              rw [← hr] at hA1 hal
              have HR := hid hr
              have iR : (Try.prog.info? 42).map (·.size) = some (wv r).toArray.size := by rw [i8]; simp [wv_length, hal]
              clear hi HI hlt hV hr iH
              go_wp2_with (first | (refine wpList_load_row rfl 42 (.tmp 3) rfl w.heap.size rfl 42 _ _ _ hA1 Try.underlying42 rfl iR ?_) | (refine wpList_store_row rfl 42 (.tmp 6) (.tmp 188) rfl (w.heap.size + 1 + 1) rfl _ rfl 42 _ hA2 iR (by simp [wv_length, hal]) (wv_one r) ?_; intro w5 hR5 ho5 hz5))
              refine bodyPost_ret (results_cell_row rfl _ _ (w.heap.size + 1 + 1) 42 (wv r).toArray (0, 0) _ rfl hR5 Try.underlying42 rfl iR) rfl ⟨?_, hC.trans (ho5.below (by omega) hC.size)⟩
              rw [HR.out, HV.out, HSW.out, HKC.out]
              rfl
end Go.Proofs.Ythacopmahjcmaaa
