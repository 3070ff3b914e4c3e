/-
  The walks of the reference's product, tests and roots.
-/
import Derived.Test.YthacopmahjcmaaaS1
namespace Go.Proofs.Ythacopmahjcmaaa
open Go.RowKit
set_option linter.unusedVariables false

/-- The school method. -/
theorem school (a b : Nat) (ha : a < 18446744073709551616) (hb : b < 18446744073709551616) :
    let ll := a % 4294967296 * (b % 4294967296)
    let lh := a % 4294967296 * (b / 4294967296)
    let hl := a / 4294967296 * (b % 4294967296)
    let hh := a / 4294967296 * (b / 4294967296)
    let mid := ll / 4294967296 + lh % 4294967296 + hl % 4294967296
    ll < 18446744073709551616 ∧ lh < 18446744073709551616 ∧ hl < 18446744073709551616 ∧ hh ≤ 18446744065119617025 ∧ mid < 12884901888 ∧
      mulHi a b = hh + lh / 4294967296 + hl / 4294967296 + mid / 4294967296 ∧ mulLo a b = mid * 4294967296 % 18446744073709551616 + ll % 4294967296 ∧ mulHi a b < 18446744073709551616 := by
  intro ll lh hl hh mid
  have e1 : a = a / 4294967296 * 4294967296 + a % 4294967296 := by omega
  have e2 : b = b / 4294967296 * 4294967296 + b % 4294967296 := by omega
  have hA : a / 4294967296 ≤ 4294967295 := by omega
  have hB : b / 4294967296 ≤ 4294967295 := by omega
  have hC : a % 4294967296 ≤ 4294967295 := by omega
  have hD : b % 4294967296 ≤ 4294967295 := by omega
  have b1 : ll ≤ 4294967295 * 4294967295 := Nat.mul_le_mul hC hD
  have b2 : lh ≤ 4294967295 * 4294967295 := Nat.mul_le_mul hC hB
  have b3 : hl ≤ 4294967295 * 4294967295 := Nat.mul_le_mul hA hD
  have b4 : hh ≤ 4294967295 * 4294967295 := Nat.mul_le_mul hA hB
  have ex : a * b = hh * 18446744073709551616 + (hl + lh) * 4294967296 + ll := by
    have : a * b = (a / 4294967296 * 4294967296 + a % 4294967296) * (b / 4294967296 * 4294967296 + b % 4294967296) := by rw [← e1, ← e2]
    rw [this]
    show _ = a / 4294967296 * (b / 4294967296) * 18446744073709551616 + (a / 4294967296 * (b % 4294967296) + a % 4294967296 * (b / 4294967296)) * 4294967296 + a % 4294967296 * (b % 4294967296)
    generalize a / 4294967296 = A
    generalize a % 4294967296 = C
    generalize b / 4294967296 = B
    generalize b % 4294967296 = D
    rw [Nat.add_mul, Nat.mul_add, Nat.mul_add]
    have h1 : A * 4294967296 * (B * 4294967296) = A * B * 18446744073709551616 := by
      rw [show (18446744073709551616 : Nat) = 4294967296 * 4294967296 by decide]
      ac_rfl
    have h2 : A * 4294967296 * D = A * D * 4294967296 := by ac_rfl
    have h3 : C * (B * 4294967296) = C * B * 4294967296 := by ac_rfl
    rw [h1, h2, h3, Nat.add_mul]
    omega
  have hi := mulHi_lt a b ha hb
  unfold mulHi mulLo at *
  rw [ex] at hi ⊢
  refine ⟨by omega, by omega, by omega, by omega, by omega, ?_, ?_, hi⟩
  · omega
  · omega

theorem orN (m l : Nat) : bits .or .u64 ((m * 4294967296 % 18446744073709551616 : Nat) : Int) ((l % 4294967296 : Nat) : Int) = ((m * 4294967296 % 18446744073709551616 + l % 4294967296 : Nat) : Int) := by
  rw [u64_or_nat _ _ (by omega) (by omega), nat_join 32 _ _ (by omega) (by omega)]

theorem shlN (m : Nat) : IntKind.u64.wrap ((m : Int) * 4294967296) = ((m * 4294967296 % 18446744073709551616 : Nat) : Int) := by
  rw [IntKind.wrap_u64]
  omega
theorem ret2 {k j : IntKind} {a b c d : Int} (h1 : a = b) (h2 : c = d) : Ending.returned (.tuple #[.int k a, .int j c]) = .returned (.tuple #[.int k b, .int j d]) := by rw [h1, h2]

set_option maxHeartbeats 1000000 in
theorem refMul_any (a b : Nat) (ha : a < 18446744073709551616) (hb : b < 18446744073709551616) (w : World) :
    Calls Try.prog 56 #[.int .u64 a, .int .u64 b] w fun e w' => e = .returned (.tuple #[.int .u64 (mulHi a b : Nat), .int .u64 (mulLo a b : Nat)]) ∧ w = w' := by
  obtain ⟨s1, s2, s3, s4, s5, s6, s7, s8⟩ := school a b ha hb
  have t1 : a / 4294967296 * (b / 4294967296) < 18446744073709551616 := by omega
  have t2 : a / 4294967296 * (b / 4294967296) + a % 4294967296 * (b / 4294967296) / 4294967296 < 18446744073709551616 := by omega
  have t3 : a / 4294967296 * (b / 4294967296) + a % 4294967296 * (b / 4294967296) / 4294967296 + a / 4294967296 * (b % 4294967296) / 4294967296 < 18446744073709551616 := by omega
  have t4 := s8
  rw [s6] at t4
  have t5 : a % 4294967296 * (b % 4294967296) / 4294967296 + a % 4294967296 * (b / 4294967296) % 4294967296 < 18446744073709551616 := by omega
  have t6 : a % 4294967296 * (b % 4294967296) / 4294967296 + a % 4294967296 * (b / 4294967296) % 4294967296 + a / 4294967296 * (b % 4294967296) % 4294967296 < 18446744073709551616 := by omega
  have S6 := hid s6
  have S7 := hid s7
  clear s4 s5 s6 s7 s8
  have S := hid (And.intro s1 (And.intro s2 (And.intro s3 (And.intro t1 (And.intro t2 (And.intro t3 (And.intro t4 (And.intro t5 t6))))))))
  clear s1 s2 s3 t1 t2 t3 t4 t5 t6
  go_enter Try.func56, Try.ntmps56
  go_wp2
  obtain ⟨s1, s2, s3, t1, t2, t3, t4, t5, t6⟩ := S.out
  simp only [maskN a ha, maskN b hb, divN, mulN, addN, wrapN _ s1, wrapN _ s2, wrapN _ s3, maskN _ s1, maskN _ s2, maskN _ s3, wrapN _ t1, wrapN _ t2, wrapN _ t3, wrapN _ t5, wrapN _ t6, wrapN _ t4]
  go_ret2
  refine ⟨ret2 ?_ ?_, rfl⟩
  · rw [S6.out]
  · rw [S7.out, shlN, orN]

set_option maxHeartbeats 400000 in
theorem refCubeAbove_any (x p : Nat) (hx : x < 68719476736) (hp : p < 65536) (w : World) :
    Calls Try.prog 55 #[.int .u64 x, .int .u64 p] w fun e w' => e = .returned (.bool (cubeB x p)) ∧ w = w' := by
  have b1 := mulLo_lt x x
  obtain ⟨b2, h20⟩ := mulHi_small x hx
  obtain ⟨cy, md, l1, ecy, emd, el1, hcy, hb⟩ := cubeB_eq x p hx
  have M1 := fun W => refMul_any x x (by omega) (by omega) W
  have M2 := fun W => refMul_any (mulLo x x) x b1 (by omega) W
  have M3 := fun W => refMul_any (mulHi x x) x (by omega) (by omega) W
  have c1 := mulHi_lt (mulLo x x) x b1 (by omega)
  have c2 := mulLo_lt (mulHi x x) x
  rw [← el1] at M2
  rw [h20] at M3
  generalize mulHi (mulLo x x) x = h1 at *
  generalize mulLo (mulHi x x) x = l2 at *
  generalize mulHi x x = hi at *
  generalize mulLo x x = lo at *
  generalize cubeB x p = r at *
  have hmd : IntKind.u64.wrap ((h1 : Int) + (l2 : Int)) = (md : Int) := by rw [IntKind.wrap_u64, emd]; omega
  have hcase : (cy = 0 ∧ h1 ≤ md) ∨ (cy = 1 ∧ md < h1) := by omega
  obtain ⟨q, hq⟩ : ∃ q, q = p * 4294967296 := ⟨_, rfl⟩
  rw [← hq] at hb
  have hql : q < 281474976710656 := by omega
  have hm : (p : Int) * 4294967296 = (q : Int) := by omega
  have HB := hid hb
  have HM1 := hid M1
  have HM2 := hid M2
  have HM3 := hid M3
  clear hb M1 M2 M3 b1 ecy emd el1 h20 hq c1 c2
  rcases hcase with ⟨rfl, hc⟩ | ⟨rfl, hc⟩
  · have hd : decide (md < h1) = false := by simp; omega
    go_enter Try.func55, Try.ntmps55
    go_wp2_with fail
    refine (HM1.out _).mono ?_
    rintro e w' ⟨rfl, rfl⟩
    go_wp2_with fail
    refine (HM2.out _).mono ?_
    rintro e w' ⟨rfl, rfl⟩
    go_wp2_with fail
    refine (HM3.out _).mono ?_
    rintro e w' ⟨rfl, rfl⟩
    go_wp2_with fail
    all_goals
      go_ret
      refine ⟨ret_bool ?_, rfl⟩
      go_light
      rw [HB.out, if_neg (by omega)]
      rcases Nat.lt_trichotomy q md with k | k | k
      · simp [k]; try omega
      · subst k; simp; try omega
      · have q1 : ¬ q < md := by omega
        have q2 : ¬ md = q := by omega
        simp [q1, q2]; try omega
  · have hd : decide (md < h1) = true := by simp; omega
    go_enter Try.func55, Try.ntmps55
    go_wp2_with fail
    refine (HM1.out _).mono ?_
    rintro e w' ⟨rfl, rfl⟩
    go_wp2_with fail
    refine (HM2.out _).mono ?_
    rintro e w' ⟨rfl, rfl⟩
    go_wp2_with fail
    refine (HM3.out _).mono ?_
    rintro e w' ⟨rfl, rfl⟩
    go_wp2_with fail
    go_ret
    exact ⟨ret_bool (by rw [HB.out, if_pos (by omega)]), rfl⟩

set_option maxHeartbeats 400000 in
theorem refCube_any (p : Nat) (hp : p < 65536) (w : World) :
    Calls Try.prog 32 #[.int .u64 p] w fun e w' => e = .returned (.int .u32 ((rootC fun x => cubeB x p).toNat : Nat)) ∧ w = w' := by
  obtain ⟨R, hR⟩ : ∃ R, R = rootF (fun x => cubeB x p) 36 0 68719476736 := ⟨_, rfl⟩
  have hc : (rootC fun x => cubeB x p).toNat = R % 4294967296 := by rw [rootC, ← hR]; simp
  have hRl : R < 68719476736 := by rw [hR]; exact rootF_lt _ _ _ _ (by omega)
  rw [hc]
  have HR := hid hR
  clear hc hR
  go_enter Try.func32, Try.ntmps32
  go_wp2_with fail
  go_loopg [3, 4] 36 (fun f v3 v4 wr => RT (fun x => cubeB x p) R w f v3 v4 wr)
  case atStart => exact ⟨0, 68719476736, by omega, Nat.le_refl _, by decide, HR.out.symm, rfl, rfl, rfl⟩
  case round =>
    obtain ⟨low, high, h1, h2, h3, h4, rfl, rfl, rfl⟩ := hrel
    have h3' := hid h3
    have h4' := hid h4
    clear h3 h4
    by_cases hb : 1 < high - low
    · obtain ⟨g, rfl, m1, m2, s1, s2⟩ := RT_step h1 h3'.out h4'.out hb
      have ha : 0 ≤ ((low : Int) + high) := by omega
      have em : ((low : Int) + (high : Int)) / 2 = (((low + high) / 2 : Nat) : Int) := by omega
      generalize (low + high) / 2 = m at *
      have H1 := hid s1
      have H2 := hid s2
      have C := hid (refCubeAbove_any m p (by omega) hp w)
      clear s1 s2
      go_wp2_with fail
      refine C.out.mono ?_
      rintro e w' ⟨rfl, rfl⟩
      by_cases hab : cubeB m p = true
      · obtain ⟨t1, t2⟩ := H1.out hab
        have T1 := hid t1
        have T2 := hid t2
        have EM := hid em
        clear t1 t2 em
        go_wp2_with fail
        go_roundg g
        case measure => omega
        case rel => exact ⟨low, m, m1, by omega, T1.out, T2.out, rfl, int_cast EM.out, rfl⟩
      · have hab' : cubeB m p = false := by simpa using hab
        obtain ⟨t1, t2⟩ := H2.out hab'
        have T1 := hid t1
        have T2 := hid t2
        have EM := hid em
        clear t1 t2 em
        go_wp2_with fail
        go_roundg g
        case measure => omega
        case rel => exact ⟨m, high, m2, by omega, T1.out, T2.out, int_cast EM.out, rfl, rfl⟩
    · have e := RT_end h4'.out hb
      go_wp2_with fail
      go_ret
      exact ⟨ret_int (by omega), rfl⟩


set_option maxHeartbeats 400000 in
theorem refSquare_any (p : Nat) (hp : p < 65536) (w : World) :
    Calls Try.prog 33 #[.int .u64 p] w fun e w' => e = .returned (.int .u32 ((rootC fun x => squareB x p).toNat : Nat)) ∧ w = w' := by
  obtain ⟨R, hR⟩ : ∃ R, R = rootF (fun x => squareB x p) 36 0 68719476736 := ⟨_, rfl⟩
  have hc : (rootC fun x => squareB x p).toNat = R % 4294967296 := by rw [rootC, ← hR]; simp
  have hRl : R < 68719476736 := by rw [hR]; exact rootF_lt _ _ _ _ (by omega)
  rw [hc]
  have HR := hid hR
  clear hc hR
  go_enter Try.func33, Try.ntmps33
  go_wp2_with fail
  go_loopg [3, 4] 36 (fun f v3 v4 wr => RT (fun x => squareB x p) R w f v3 v4 wr)
  case atStart => exact ⟨0, 68719476736, by omega, Nat.le_refl _, by decide, HR.out.symm, rfl, rfl, rfl⟩
  case round =>
    obtain ⟨low, high, h1, h2, h3, h4, rfl, rfl, rfl⟩ := hrel
    have h3' := hid h3
    have h4' := hid h4
    clear h3 h4
    by_cases hb : 1 < high - low
    · obtain ⟨g, rfl, m1, m2, s1, s2⟩ := RT_step h1 h3'.out h4'.out hb
      have ha : 0 ≤ ((low : Int) + high) := by omega
      have em : ((low : Int) + (high : Int)) / 2 = (((low + high) / 2 : Nat) : Int) := by omega
      generalize (low + high) / 2 = m at *
      have H1 := hid s1
      have H2 := hid s2
      have C := hid (refMul_any m m (by omega) (by omega) w)
      have hsb : squareB m p = (decide (p < mulHi m m) || (decide (mulHi m m = p) && decide (0 < mulLo m m))) := rfl
      clear s1 s2
      generalize squareB m p = r at *
      generalize mulHi m m = h at *
      generalize mulLo m m = l at *
      cases r with
      | true =>
        obtain ⟨t1, t2⟩ := H1.out rfl
        have T1 := hid t1
        have T2 := hid t2
        have hh : p < h ∨ (h = p ∧ 0 < l) := by
          have := hsb.symm
          simp at this
          exact this
        clear t1 t2 H1 H2 hsb
        rcases hh with hh | ⟨hh, hl⟩
        · have d1 : decide (p < h) = true := by simp; omega
          go_wp2_with fail
          refine C.out.mono ?_
          rintro e w' ⟨rfl, rfl⟩
          go_wp2_with fail
          go_roundg g
          case measure => omega
          case rel => exact ⟨low, m, m1, by omega, T1.out, T2.out, rfl, rfl, rfl⟩
        · have d1 : decide (p < h) = false := by simp; omega
          have d2 : ((h : Int) == (p : Int)) = true := by simp; omega
          have d3 : decide (0 < l) = true := by simp; omega
          clear hh
          go_wp2_with fail
          refine C.out.mono ?_
          rintro e w' ⟨rfl, rfl⟩
          go_wp2_with fail
          go_roundg g
          case measure => omega
          case rel => exact ⟨low, m, m1, by omega, T1.out, T2.out, rfl, rfl, rfl⟩
      | false =>
        obtain ⟨t1, t2⟩ := H2.out rfl
        have T1 := hid t1
        have T2 := hid t2
        have hh : h ≤ p ∧ (¬ h = p ∨ l = 0) := by
          have := hsb.symm
          simp at this
          refine ⟨this.1, ?_⟩
          by_cases q : h = p
          · exact Or.inr (this.2 q)
          · exact Or.inl q
        obtain ⟨hh, hl⟩ := hh
        have d1 : decide (p < h) = false := by simp; omega
        clear t1 t2 H1 H2 hsb
        by_cases q : h = p
        · have d2 : ((h : Int) == (p : Int)) = true := by simp; omega
          have d3 : decide (0 < l) = false := by simp; omega
          clear q hl hh
          go_wp2_with fail
          refine C.out.mono ?_
          rintro e w' ⟨rfl, rfl⟩
          go_wp2_with fail
          go_roundg g
          case measure => omega
          case rel => exact ⟨m, high, m2, by omega, T1.out, T2.out, rfl, rfl, rfl⟩
        · have d2 : ((h : Int) == (p : Int)) = false := by simp; omega
          clear hl
          go_wp2_with fail
          refine C.out.mono ?_
          rintro e w' ⟨rfl, rfl⟩
          go_wp2_with fail
          go_roundg g
          case measure => omega
          case rel => exact ⟨m, high, m2, by omega, T1.out, T2.out, rfl, rfl, rfl⟩
    · have e := RT_end h4'.out hb
      go_wp2_with fail
      go_ret
      exact ⟨ret_int (by omega), rfl⟩

end Go.Proofs.Ythacopmahjcmaaa
