/-
  The walk of the program's constants.
-/
import Derived.Test.YthacopmahjcmaaaS3
import Derived.Test.YthacopmahjcmaaaArr
namespace Go.Proofs.Ythacopmahjcmaaa
open Go.RowKit
set_option linter.unusedVariables false

/-- The cells of words. -/
def wv (l : List UInt32) : List Value := l.map fun x => Value.int .u32 (x.toNat : Int)
theorem wv_length (l : List UInt32) : (wv l).length = l.length := by simp [wv]
theorem wv_get (l : List UInt32) (j : Nat) (h : j < l.length) : (wv l)[j]? = some (.int .u32 (l[j].toNat : Int)) := by simp [wv, h]
theorem wv_set (l : List UInt32) (j : Nat) (x : UInt32) : (wv l).set j (.int .u32 (x.toNat : Int)) = wv (l.set j x) := by simp [wv, List.map_set]

theorem wv_one (l : List UInt32) : ∀ v ∈ wv l, v.oneCell' = true := by
  intro v hv
  obtain ⟨b, _, rfl⟩ := List.mem_map.1 hv
  rfl
/-- A row of words known whole. -/
def Ws (w : World) (g : Nat) (t : TypeId) (l : List UInt32) : Prop := At w g t (wv l).toArray

/-- The constants of the rounds, and the words at first. -/
def Kc : List UInt32 := P64.map fun p => rootC fun x => cubeB x p
def Hc : List UInt32 := (P64.take 8).map fun p => rootC fun x => squareB x p
theorem Kc_len : Kc.length = 64 := by simp [Kc]; rfl
theorem Hc_len : Hc.length = 8 := by simp [Hc]; decide
/-- A list that is filled up to i. -/
def fillL (l : List UInt32) (n i : Nat) : List UInt32 := l.take i ++ List.replicate (n - i) 0
theorem fillL_len (l : List UInt32) (n i : Nat) (h : l.length = n) (hi : i ≤ n) : (fillL l n i).length = n := by simp [fillL]; omega
theorem fillL_step (l : List UInt32) (n i : Nat) (h : l.length = n) (hi : i < n) : (fillL l n i).set i (l[i]'(by omega)) = fillL l n (i + 1) := by
  unfold fillL
  rw [List.set_append_right _ _ (by simp; omega), List.take_succ_eq_append_getElem (by omega)]
  obtain ⟨d, hd⟩ : ∃ d, n - i = d + 1 := ⟨n - i - 1, by omega⟩
  rw [hd, show n - (i + 1) = d by omega, show i - (l.take i).length = 0 by simp; omega, List.replicate_succ, List.set_cons_zero, List.append_assoc]
  rfl
theorem fillL_end (l : List UInt32) (n : Nat) (h : l.length = n) : fillL l n n = l := by
  unfold fillL
  rw [List.take_of_length_le (by omega)]
  simp
theorem Ws.store {w : World} {g : Nat} {t : TypeId} {l : List UInt32} (h : Ws w g t l) (i : Nat) (x : UInt32) : Ws (w.setCell ⟨g, i, none⟩ (.int .u32 (x.toNat : Int))) g t (l.set i x) := by
  have := At.set h i (.int .u32 (x.toNat : Int))
  unfold Ws
  rw [← wv_set]
  simpa using this
theorem Ws.has {w : World} {g : Nat} {t : TypeId} {l : List UInt32} (h : Ws w g t l) (i : Nat) (hi : i < l.length) : w.cell? ⟨g, i, none⟩ = some (.int .u32 (l[i].toNat : Int)) := by
  rw [At.cell h]
  simpa using wv_get l i hi
/-- Row g holds the primes. -/
def Pr (w : World) (g : Nat) : Prop := ∀ (i n : Nat), P64[i]? = some n → w.cell? ⟨g, i, none⟩ = some (.int .u64 (n : Int))
theorem Pr.at_ {w : World} {g : Nat} (h : Pr w g) (i : Nat) (hi : i < 64) : ∃ n : Nat, n < 65536 ∧ w.cell? ⟨g, i, none⟩ = some (.int .u64 (n : Int)) ∧ P64[i]? = some n := by
  have hl : i < P64.length := hi
  have := pre_bd P64[i] (List.getElem_mem hl)
  exact ⟨P64[i], by omega, h i _ (List.getElem?_eq_getElem hl), List.getElem?_eq_getElem hl⟩
theorem Pr.far {w : World} {g : Nat} (h : Pr w g) {p : Addr} (hp : g ≠ p.block) (u : Value) : Pr (w.setCell p u) g := fun i n hn => by
  rw [World.cell?_setCell_other _ _ _ _ (fun e => hp (by rw [e]))]
  exact h i n hn
theorem Kc_at (i n : Nat) (h : P64[i]? = some n) (hi : i < Kc.length) : Kc[i] = rootC fun x => cubeB x n := by
  have hl : i < P64.length := (List.getElem?_eq_some_iff.1 h).1
  have e : P64[i] = n := (List.getElem?_eq_some_iff.1 h).2
  simp only [Kc, List.getElem_map, e]
theorem Hc_at (i n : Nat) (h : P64[i]? = some n) (hi : i < Hc.length) : Hc[i] = rootC fun x => squareB x n := by
  have hl : i < P64.length := (List.getElem?_eq_some_iff.1 h).1
  have e : P64[i] = n := (List.getElem?_eq_some_iff.1 h).2
  simp only [Hc, List.getElem_map, List.getElem_take, e]

theorem results_two {P : Program} {fn : Func} {p q : Tmp} {ty ty' : TypeId} (h : fn.results = #[.cell p ty, .cell q ty']) (tmps : Array Value) (w : World) (g : Nat) (cs : Array Value) (t : TypeId) (d : TypeDesc) (g' : Nat) (cs' : Array Value) (t' : TypeId) (d' : TypeDesc)
    (hp : tmps.getD p undef = .pointer (some ⟨g, 0, none⟩)) (hg : At w g t cs)
    (hu : P.underlying ty = some d) (hd : (match d with | .struct _ | .array _ _ => true | _ => false) = true) (hi : (P.info? ty).map (·.size) = some cs.size)
    (hp' : tmps.getD q undef = .pointer (some ⟨g', 0, none⟩)) (hg' : At w g' t' cs')
    (hu' : P.underlying ty' = some d') (hd' : (match d' with | .struct _ | .array _ _ => true | _ => false) = true) (hi' : (P.info? ty').map (·.size) = some cs'.size) :
    (results fn tmps).run P w = .ok (.tuple #[.agg cs, .agg cs']) w := by
  have e1 : tmps[p]?.getD undef = .pointer (some ⟨g, 0, none⟩) := by simpa using hp
  have e2 : tmps[q]?.getD undef = .pointer (some ⟨g', 0, none⟩) := by simpa using hp'
  simp [results, h, e1, e2, asAddr, run_loadVar_row w g t ty cs (0, 0) d hg hu hd hi, run_loadVar_row w g' t' ty' cs' (0, 0) d' hg' hu' hd' hi']

def CP (w : World) (m : Nat) (v2 v3 : Value) (wr : World) : Prop :=
  ∃ x : Nat, m + x = 312 ∧ 2 ≤ x ∧ v3 = .int .u64 x ∧ wr.ownsRow (w.heap.size + 2) 56 1 v2 (pre x).length (pv (pre x)) ∧ Ws wr w.heap.size 43 (List.replicate 8 0) ∧ Ws wr (w.heap.size + 1) 44 (List.replicate 64 0) ∧ Below w.heap.size w wr

set_option maxRecDepth 100000 in
set_option maxHeartbeats 1000000 in
theorem constants_any (w : World) :
    Calls Try.prog 28 #[] w fun e w' => e = .returned (.tuple #[.agg (wv Hc).toArray, .agg (wv Kc).toArray]) ∧ Below w.heap.size w w' := by
  obtain ⟨i0, hi, hz0, hz1, hz2⟩ := info_parts info56
  go_enter Try.func28, Try.ntmps28
  go_wp2
  generalize hW : ((w.alloc _).alloc _) = W1
  have hA : Ws W1 w.heap.size 43 (List.replicate 8 0) := by rw [← hW]; exact (At.new _ _ _).alloc _
  have hB : Ws W1 (w.heap.size + 1) 44 (List.replicate 64 0) := by rw [← hW]; exact At.new' _ _ _ (by simp)
  have hC : Below w.heap.size w W1 := by rw [← hW]; exact ((Below.refl _ _).alloc (Nat.le_refl _) _).alloc (by simp) _
  have hS : w.heap.size + 2 ≤ W1.heap.size := by rw [← hW]; simp
  clear hW
  go_step3
  go_wp2
  go_step3
  go_wp2
  go_loopg [2, 3] 310 (fun m v2 v3 wr => CP w m v2 v3 wr)
  case atStart => exact ⟨2, rfl, Nat.le_refl _, rfl, by rw [pre_two]; exact World.ownsRow_nil _ _ _ _, hA, hB, hC⟩
  case round =>
    obtain ⟨x, hx, hx2, rfl, hown, hA, hB, hb⟩ := hrel
    have hpl := pre_len x
    by_cases hlt : x < 312
    · obtain ⟨hstep, hlt64⟩ := pre_all x hlt hx2
      have hform : ∃ A c, u2 = .slice A (pre x).length c := by
        rcases hown.2 with ⟨h1, h2⟩ | ⟨g, cap, cur, h1, _⟩
        · exact ⟨none, 0, by rw [h1, h2]⟩
        · exact ⟨_, _, h1⟩
      obtain ⟨A, c, rfl⟩ := hform
      have HX := hid hx
      have HS := hid hstep
      have hd64 : ((pre x).length : Int) < 64 := by omega
      clear hx hstep hS hC
      go_wp2_with fail
      go_loopg [16] (pre x).length (fun m v16 wx => ∃ i : Nat, m + i = (pre x).length ∧ v16 = .int .i64 i ∧ noneDiv x ((pre x).take i) = true ∧ wr = wx)
      case atStart => exact ⟨0, by omega, rfl, by simp [noneDiv], rfl⟩
      case round =>
        obtain ⟨i, hi', rfl, hnb, rfl⟩ := hrel
        have HI := hid hi'
        have HB := hid hnb
        clear hi' hnb
        by_cases hil : i < (pre x).length
        · obtain ⟨g, cap, u, hv, hbg, hgl, hu, hc⟩ := own_at hown hil
          injection hv with hv1 _ hv2
          subst hv1 hv2
          rw [pv_get _ i hil] at hu
          injection hu with hu
          subst hu
          have hpb := pre_mem x (pre x)[i] (List.getElem_mem hil)
          have hnd := noneDiv_step x (pre x) i hil
          have HN := hid hnd
          have hnf := noneDiv_false x (pre x) (i + 1)
          obtain ⟨p, hp⟩ : ∃ p, p = (pre x)[i] := ⟨_, rfl⟩
          rw [← hp] at hc hpb
          have HP := hid hp
          have HF := hid hnf
          clear hnd hp hnf
          by_cases hdv : x % p = 0
          · have hdb : ((x : Int) % (p : Int) == 0) = true := by rw [beq_iff_eq]; omega
            have hst : pre (x + 1) = pre x := by
              rw [HS.out, HF.out (by rw [HN.out, HB.out, ← HP.out]; simp [hdv])]; simp
            have HST := hid hst
            clear hdv hst
            go_wp2_with fail
            go_roundg (312 - (x + 1))
            case measure => go_light; have := HX.out; omega
            case rel =>
              go_light
              exact ⟨x + 1, by omega, by omega, int_cast (by omega), by rw [HST.out]; exact hown, hA, hB, hb⟩
          · have hdb : ((x : Int) % (p : Int) == 0) = false := by rw [beq_eq_false_iff_ne]; omega
            have hst : noneDiv x ((pre x).take (i + 1)) = true := by rw [HN.out, HB.out, ← HP.out]; simp [hdv]
            have HST := hid hst
            clear hdv hst
            go_wp2_with fail
            go_roundg (gk - 1)
            case measure => go_light; have := HI.out; omega
            case rel =>
              go_light
              have := HI.out
              exact ⟨i + 1, by omega, int_cast (by omega), HST.out, rfl⟩
        · have hii : i = (pre x).length := by have := HI.out; omega
          subst hii
          have hst : pre (x + 1) = pre x ++ [x] := by
            have h1 := HB.out
            rw [List.take_length] at h1
            rw [HS.out, h1]; simp
          have HST := hid hst
          clear hst HI hil HB
          have hnew : (wr.alloc (.cells #[.int .u64 (x : Int)] 56)).ownsRow (w.heap.size + 2) 56 1 (.slice A (pre x).length c) (pre x).length (pv (pre x)) := hown.alloc _
          have hwl : w.heap.size + 2 ≤ wr.heap.size := hB.lt
          go_wp2_with (at_builtin; refine wpList_append_own _ rfl (.tmp 25) (.tmp 27) 53 rfl (w.heap.size + 2) 56 i0 (.int .u64 0) 1 8 Try.underlying53 hi hz0 hz1 hz2 rfl (by decide) _ _ _ rfl hnew ⟨wr.heap.size, 0, none⟩ 1 1 [.int .u64 (x : Int)] rfl rfl (cell_one_new _ _ _) (by simp [Value.oneCell']) (by simp only [maxLen]; omega) (by omega) (by simp; omega) ?_; intro v' w1 hown1 hg1 _)
          go_roundg (312 - (x + 1))
          case measure => go_light; have := HX.out; omega
          case rel =>
            go_light
            have hlo := fun k hk => (hnew.lt k hk).1
            refine ⟨x + 1, by omega, by omega, int_cast (by omega), ?_, ?_, ?_, ?_⟩
            · rw [HST.out, pv_snoc, List.length_append]
              exact hown1
            · exact At.grown (At.alloc hA _) hg1 (fun e => by have := hlo _ e.symm; omega)
            · exact At.grown (At.alloc hB _) hg1 (fun e => by have := hlo _ e.symm; omega)
            · exact (hb.alloc hb.size _).grown hg1 (by have := hb.size; simp; omega) (fun k hk => by have := hlo k hk; omega)
    · obtain rfl : x = 312 := by omega
      rw [pre_end, show P64.length = 64 from rfl] at hown
      obtain ⟨g, cap, u, rfl, hbg, hgl, _, _⟩ := own_at hown (show 0 < 64 by omega)
      clear hpl hx hlt
      go_wp2_with fail
      have hpr : Pr wr g := fun i n hn => by
        have hl : i < P64.length := (List.getElem?_eq_some_iff.1 hn).1
        rw [hown.cellAt i (by have : P64.length = 64 := rfl; omega), pv_get _ i hl, (List.getElem?_eq_some_iff.1 hn).2]
      have hg1 : g ≠ w.heap.size + 1 := by omega
      have hg0 : g ≠ w.heap.size := by omega
      clear hown hgl hbg
      rw [show ((312 : Nat) : Int) = 312 from rfl]
      go_loopg [31] 64 (fun m v31 wx => ∃ i : Nat, m + i = 64 ∧ v31 = .int .i64 i ∧ Ws wx (w.heap.size + 1) 44 (fillL Kc 64 i) ∧ Ws wx w.heap.size 43 (List.replicate 8 0) ∧ Pr wx g ∧ Below w.heap.size w wx)
      case atStart => exact ⟨0, rfl, rfl, hB, hA, hpr, hb⟩
      case round =>
        clear hA hB hpr hb
        obtain ⟨i, hi', rfl, hB, hA, hpr, hb⟩ := hrel
        have HI := hid hi'
        by_cases hil : i < 64
        · obtain ⟨n, hn, hc, hP⟩ := hpr.at_ i hil
          have hKl : i < Kc.length := by rw [Kc_len]; exact hil
          have hcl := hB.has i (by rw [fillL_len _ _ _ Kc_len (by omega)]; exact hil)
          have hf := At.frozen hB i
          obtain ⟨cv, hcv⟩ : ∃ cv, cv = (fillL Kc 64 i)[i]'(by rw [fillL_len _ _ _ Kc_len (by omega)]; exact hil) := ⟨_, rfl⟩
          rw [← hcv] at hcl
          have hst := Ws.store hB i Kc[i]
          rw [fillL_step Kc 64 i Kc_len hil, Kc_at i n hP hKl] at hst
          obtain ⟨kc, hkc⟩ : ∃ kc, kc = rootC fun x => cubeB x n := ⟨_, rfl⟩
          have hroot := root_cube n hn wr
          rw [← hkc] at hroot hst
          have HR := hid hroot
          have HST := hid hst
          clear hroot hst hkc hcv hP hi'
          go_wp2_with fail
          refine HR.out.mono ?_
          rintro e w' ⟨rfl, rfl⟩
          go_wp2_with fail
          go_roundg (gk - 1)
          case measure => go_light; have := HI.out; omega
          case rel =>
            go_light
            have := HI.out
            exact ⟨i + 1, by omega, int_cast (by omega), HST.out, At.far hA (by simp) _, hpr.far hg1 _, hb.setCell (p := ⟨w.heap.size + 1, i, none⟩) (by simp) _⟩
        · obtain rfl : i = 64 := by omega
          rw [fillL_end _ _ Kc_len] at hB
          clear hi' HI hil
          rw [show ((64 : Nat) : Int) = 64 from rfl]
          go_wp2_with fail
          go_loopg [41] 8 (fun m v41 wx => ∃ i : Nat, m + i = 8 ∧ v41 = .int .i64 i ∧ Ws wx w.heap.size 43 (fillL Hc 8 i) ∧ Ws wx (w.heap.size + 1) 44 Kc ∧ Pr wx g ∧ Below w.heap.size w wx)
          case atStart => exact ⟨0, rfl, rfl, hA, hB, hpr, hb⟩
          case round =>
            clear hA hB hpr hb
            obtain ⟨i, hi', rfl, hA, hB, hpr, hb⟩ := hrel
            have HI := hid hi'
            by_cases hil : i < 8
            · obtain ⟨n, hn, hc, hP⟩ := hpr.at_ i (by omega)
              have hKl : i < Hc.length := by rw [Hc_len]; exact hil
              have hcl := hA.has i (by rw [fillL_len _ _ _ Hc_len (by omega)]; exact hil)
              have hf := At.frozen hA i
              obtain ⟨cv, hcv⟩ : ∃ cv, cv = (fillL Hc 8 i)[i]'(by rw [fillL_len _ _ _ Hc_len (by omega)]; exact hil) := ⟨_, rfl⟩
              rw [← hcv] at hcl
              have hst := Ws.store hA i Hc[i]
              rw [fillL_step Hc 8 i Hc_len hil, Hc_at i n hP hKl] at hst
              obtain ⟨kc, hkc⟩ : ∃ kc, kc = rootC fun x => squareB x n := ⟨_, rfl⟩
              have hroot := root_square n hn wr
              rw [← hkc] at hroot hst
              have HR := hid hroot
              have HST := hid hst
              have hi64 : (i : Int) < 64 := by omega
              clear hroot hst hkc hcv hP hi'
              go_wp2_with fail
              refine HR.out.mono ?_
              rintro e w' ⟨rfl, rfl⟩
              go_wp2_with fail
              go_roundg (gk - 1)
              case measure => go_light; have := HI.out; omega
              case rel =>
                go_light
                have := HI.out
                exact ⟨i + 1, by omega, int_cast (by omega), HST.out, At.far hB (by simp) _, hpr.far hg0 _, hb.setCell (p := ⟨w.heap.size, i, none⟩) (by simp) _⟩
            · obtain rfl : i = 8 := by omega
              rw [fillL_end _ _ Hc_len] at hA
              clear hi' HI hil hpr
              go_wp2_with fail
              have hsH : (wr.drew).setRow w.heap.size (wv Hc).toArray = wr.drew := setRow_self wr.drew _ _ 43 (0, 0) hA
              have hsK : (wr.drew).setRow (w.heap.size + 1) (wv Kc).toArray = wr.drew := setRow_self wr.drew _ _ 44 (0, 0) hB
              have hA' : At wr.drew w.heap.size 43 (wv Hc).toArray := hA
              have hB' : At wr.drew (w.heap.size + 1) 44 (wv Kc).toArray := hB
              have iH : (Try.prog.info? 43).map (·.size) = some (wv Hc).toArray.size := by rw [List.size_toArray, wv_length, Hc_len]; kernel_rfl
              have iK : (Try.prog.info? 44).map (·.size) = some (wv Kc).toArray.size := by rw [List.size_toArray, wv_length, Kc_len]; kernel_rfl
              have oH : ∀ v ∈ (wv Hc).toArray.toList, v.oneCell' = true := wv_one Hc
              have oK : ∀ v ∈ (wv Kc).toArray.toList, v.oneCell' = true := wv_one Kc
              refine wp_region_any (by kernel_rfl) ?_
              change wpAny _ _ _ _ _ _ _ (World.drew _)
              refine wpAny_ready (rs := [0, 1]) (by kernel_rfl) (by simp) ?_
              refine AllReady.cons rfl (fun K hK => ?_) (AllReady.cons rfl (fun K hK => ?_) AllReady.nil)
              · refine step_load_row rfl 43 (.tmp 0) rfl w.heap.size (by simp [Act.eval]) 43 _ _ hA' Try.underlying43 rfl iH ?_
                refine hK _ _ ?_
                clear hK K
                refine wpAny_ready (rs := [1, 2]) (by kernel_rfl) (by simp) ?_
                refine AllReady.cons rfl (fun K hK => ?_) (AllReady.cons rfl (fun K hK => ?_) AllReady.nil)
                · refine step_load_row rfl 44 (.tmp 1) rfl (w.heap.size + 1) (by simp [Act.eval, Act.put]) 44 _ _ hB' Try.underlying44 rfl iK ?_
                  refine hK _ _ ?_
                  clear hK K
                  refine wpAny_ready (rs := [2]) (by kernel_rfl) (by simp) ?_
                  refine AllReady.cons rfl (fun K hK => ?_) AllReady.nil
                  refine step_store_row rfl 43 (.tmp 0) (.tmp 52) rfl w.heap.size (by simp [Act.eval, Act.put]) _ (by simp [Act.eval, Act.put]) 43 _ hA' iH rfl oH ?_
                  refine hK _ _ ?_
                  clear hK K
                  rw [hsH]
                  refine wpAny_ready (rs := [3]) (by kernel_rfl) (by simp) ?_
                  refine AllReady.cons rfl (fun K hK => ?_) AllReady.nil
                  refine step_store_row rfl 44 (.tmp 1) (.tmp 53) rfl (w.heap.size + 1) (by simp [Act.eval, Act.put]) _ (by simp [Act.eval, Act.put]) 44 _ hB' iK rfl oK ?_
                  refine hK _ _ ?_
                  clear hK K
                  rw [hsK]
                  refine wpAny_done (by kernel_rfl) ?_ _
                  go_frame
                  go_wp2
                  exact bodyPost_ret (results_two rfl _ _ w.heap.size _ 43 _ (w.heap.size + 1) _ 44 _ rfl hA' Try.underlying43 rfl iH rfl hB' Try.underlying44 rfl iK) rfl ⟨rfl, hb.drew⟩
                · refine step_store_row rfl 43 (.tmp 0) (.tmp 52) rfl w.heap.size (by simp [Act.eval, Act.put]) _ (by simp [Act.eval, Act.put]) 43 _ hA' iH rfl oH ?_
                  refine hK _ _ ?_
                  clear hK K
                  rw [hsH]
                  refine wpAny_ready (rs := [1]) (by kernel_rfl) (by simp) ?_
                  refine AllReady.cons rfl (fun K hK => ?_) AllReady.nil
                  refine step_load_row rfl 44 (.tmp 1) rfl (w.heap.size + 1) (by simp [Act.eval, Act.put]) 44 _ _ hB' Try.underlying44 rfl iK ?_
                  refine hK _ _ ?_
                  clear hK K
                  refine wpAny_ready (rs := [3]) (by kernel_rfl) (by simp) ?_
                  refine AllReady.cons rfl (fun K hK => ?_) AllReady.nil
                  refine step_store_row rfl 44 (.tmp 1) (.tmp 53) rfl (w.heap.size + 1) (by simp [Act.eval, Act.put]) _ (by simp [Act.eval, Act.put]) 44 _ hB' iK rfl oK ?_
                  refine hK _ _ ?_
                  clear hK K
                  rw [hsK]
                  refine wpAny_done (by kernel_rfl) ?_ _
                  go_frame
                  go_wp2
                  exact bodyPost_ret (results_two rfl _ _ w.heap.size _ 43 _ (w.heap.size + 1) _ 44 _ rfl hA' Try.underlying43 rfl iH rfl hB' Try.underlying44 rfl iK) rfl ⟨rfl, hb.drew⟩
              · refine step_load_row rfl 44 (.tmp 1) rfl (w.heap.size + 1) (by simp [Act.eval]) 44 _ _ hB' Try.underlying44 rfl iK ?_
                refine hK _ _ ?_
                clear hK K
                refine wpAny_ready (rs := [0]) (by kernel_rfl) (by simp) ?_
                refine AllReady.cons rfl (fun K hK => ?_) AllReady.nil
                refine step_load_row rfl 43 (.tmp 0) rfl w.heap.size (by simp [Act.eval, Act.put]) 43 _ _ hA' Try.underlying43 rfl iH ?_
                refine hK _ _ ?_
                clear hK K
                refine wpAny_ready (rs := [2]) (by kernel_rfl) (by simp) ?_
                refine AllReady.cons rfl (fun K hK => ?_) AllReady.nil
                refine step_store_row rfl 43 (.tmp 0) (.tmp 52) rfl w.heap.size (by simp [Act.eval, Act.put]) _ (by simp [Act.eval, Act.put]) 43 _ hA' iH rfl oH ?_
                refine hK _ _ ?_
                clear hK K
                rw [hsH]
                refine wpAny_ready (rs := [3]) (by kernel_rfl) (by simp) ?_
                refine AllReady.cons rfl (fun K hK => ?_) AllReady.nil
                refine step_store_row rfl 44 (.tmp 1) (.tmp 53) rfl (w.heap.size + 1) (by simp [Act.eval, Act.put]) _ (by simp [Act.eval, Act.put]) 44 _ hB' iK rfl oK ?_
                refine hK _ _ ?_
                clear hK K
                rw [hsK]
                refine wpAny_done (by kernel_rfl) ?_ _
                go_frame
                go_wp2
                exact bodyPost_ret (results_two rfl _ _ w.heap.size _ 43 _ (w.heap.size + 1) _ 44 _ rfl hA' Try.underlying43 rfl iH rfl hB' Try.underlying44 rfl iK) rfl ⟨rfl, hb.drew⟩
end Go.Proofs.Ythacopmahjcmaaa
