/-
  The walks of the two lists of primes.
-/
import Derived.Test.YthacopmahjcmaaaS2
import Derived.Test.YthacopmahjcmaaaPlain
namespace Go.Proofs.Ythacopmahjcmaaa
open Go.RowKit
set_option linter.unusedVariables false

theorem info56 : (Try.prog.info? 56).map (fun i => (i.zero, i.size, i.bytes)) = some (some (.int .u64 0), 1, 8) := by kernel_rfl

theorem modne (x p : Nat) : (((x : Int) % (p : Int)) != 0) = (x % p != 0) := by
  rw [Bool.eq_iff_iff]
  simp only [bne_iff_ne, ne_eq]
  omega
theorem bool_cast {a b : Bool} (h : a = b) : Value.bool a = .bool b := by rw [h]

/-- The primes found so far, x being asked next. -/
def PL (w : World) (m : Nat) (v3 v4 : Value) (wr : World) : Prop :=
  ∃ x : Nat, m + x = 312 ∧ 2 ≤ x ∧ v4 = .int .u64 x ∧ wr.ownsRow w.heap.size 56 1 v3 (pre x).length (pv (pre x)) ∧ Below w.heap.size w wr

set_option maxHeartbeats 400000 in
theorem refPrimes_any (w : World) :
    Calls Try.prog 31 #[.int .i64 64] w fun e w' => ∃ v, e = .returned v ∧ w'.ownsRow w.heap.size 56 1 v 64 (pv P64) ∧ Below w.heap.size w w' := by
  obtain ⟨i0, hi, hz0, hz1, hz2⟩ := info_parts info56
  go_enter Try.func31, Try.ntmps31
  go_wp2
  go_loopg [3, 4] 310 (fun m v3 v4 wr => PL w m v3 v4 wr)
  case atStart => exact ⟨2, rfl, Nat.le_refl _, rfl, by rw [pre_two]; exact World.ownsRow_nil _ _ _ _, Below.refl _ _⟩
  case round =>
    obtain ⟨x, hx, hx2, rfl, hown, hb⟩ := hrel
    have hpl := pre_len x
    have hlen : ∃ v3', u3 = v3' := ⟨_, rfl⟩
    by_cases hlt : x < 312
    · obtain ⟨hstep, hlt64⟩ := pre_all x hlt hx2
      have hform : ∃ A c, u3 = .slice A (pre x).length c := by
        rcases hown.2 with ⟨h1, h2⟩ | ⟨g, cap, cur, h1, _⟩
        · exact ⟨none, 0, by rw [h1, h2]⟩
        · exact ⟨_, _, h1⟩
      obtain ⟨A, c, rfl⟩ := hform
      have HX := hid hx
      have HS := hid hstep
      have hd64 : ((pre x).length : Int) < 64 := by omega
      clear hx hstep
      go_wp2_with fail
      go_loopg [5, 6] (pre x).length (fun m v5 v6 wx => ∃ i : Nat, m + i = (pre x).length ∧ v6 = .int .i64 i ∧ v5 = .bool (noneDiv x ((pre x).take i)) ∧ wr = wx)
      case atStart => exact ⟨0, by omega, rfl, by simp [noneDiv], rfl⟩
      case round =>
        obtain ⟨i, hi', rfl, rfl, rfl⟩ := hrel
        have HI := hid hi'
        clear hi'
        by_cases hil : i < (pre x).length
        · obtain ⟨g, cap, u, hv, hbg, hgl, hu, hc⟩ := own_at hown hil
          injection hv with hv1 _ hv2
          subst hv1 hv2
          rw [pv_get _ i hil] at hu
          injection hu with hu
          subst hu
          have hpb := pre_mem x (pre x)[i] (List.getElem_mem hil)
          have hnd := noneDiv_step x (pre x) i hil
          have HN := hid hnd
          obtain ⟨p, hp⟩ : ∃ p, p = (pre x)[i] := ⟨_, rfl⟩
          rw [← hp] at hc hpb
          have HP := hid hp
          clear hnd hp
          cases hnb : noneDiv x ((pre x).take i) with
          | true =>
            have HB := hid hnb
            clear hnb
            go_wp2_with fail
            go_roundg (gk - 1)
            case measure => go_light; have := HI.out; omega
            case rel =>
              go_light
              have := HI.out
              exact ⟨i + 1, by omega, int_cast (by omega), bool_cast (by rw [HN.out, HB.out, ← HP.out, modne]; simp), rfl⟩
          | false =>
            have HB := hid hnb
            clear hnb
            go_wp2_with fail
            go_roundg (gk - 1)
            case measure => go_light; have := HI.out; omega
            case rel =>
              go_light
              have := HI.out
              exact ⟨i + 1, by omega, int_cast (by omega), bool_cast (by rw [HN.out, HB.out]; simp), rfl⟩
        · have hii : i = (pre x).length := by have := HI.out; omega
          subst hii
          rw [List.take_length]
          clear HI hil
          cases hnb : noneDiv x (pre x) with
          | true =>
            have hst : pre (x + 1) = pre x ++ [x] := by rw [HS.out, hnb]; simp
            have HST := hid hst
            clear hnb hst
            have hnew : (wr.alloc (.cells #[.int .u64 (x : Int)] 56)).ownsRow w.heap.size 56 1 (.slice A (pre x).length c) (pre x).length (pv (pre x)) := hown.alloc _
            go_wp2_with (at_builtin; refine wpList_append_own _ rfl (.tmp 30) (.tmp 32) 53 rfl w.heap.size 56 i0 (.int .u64 0) 1 8 Try.underlying53 hi hz0 hz1 hz2 rfl (by decide) _ _ _ rfl hnew ⟨wr.heap.size, 0, none⟩ 1 1 [.int .u64 (x : Int)] rfl rfl (cell_one_new _ _ _) (by simp [Value.oneCell']) (by simp only [maxLen]; omega) (by omega) (by have := hb.size; simp; omega) ?_; intro v' w1 hown1 hg1 _)
            go_roundg (312 - (x + 1))
            case measure => go_light; have := HX.out; omega
            case rel =>
              go_light
              refine ⟨x + 1, by omega, by omega, int_cast (by omega), ?_, ?_⟩
              · rw [HST.out, pv_snoc, List.length_append]
                exact hown1
              · exact (hb.alloc hb.size _).grown hg1 (by have := hb.size; simp; omega) (fun k hk => (hnew.lt k hk).1)
          | false =>
            have hst : pre (x + 1) = pre x := by rw [HS.out, hnb]; simp
            have HST := hid hst
            clear hnb hst
            go_wp2_with fail
            go_roundg (312 - (x + 1))
            case measure => go_light; have := HX.out; omega
            case rel =>
              go_light
              exact ⟨x + 1, by omega, by omega, int_cast (by omega), by rw [HST.out]; exact hown, hb⟩
    · obtain rfl : x = 312 := by omega
      rw [pre_end, show P64.length = 64 from rfl] at hown
      obtain ⟨g, cap, u, rfl, _, _, _, _⟩ := own_at hown (show 0 < 64 by omega)
      clear hpl hx hlt
      go_wp2_with fail
      go_ret
      exact ⟨_, rfl, hown, hb⟩
end Go.Proofs.Ythacopmahjcmaaa
