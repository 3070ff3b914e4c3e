/-
  The walks of name.any, name.Check.
-/
import Derived.Test.YthacopmahjcmaaaN4
namespace Go.Proofs.Ythacopmahjcmaaa
open Go.RowKit Go.Maps
set_option linter.unusedVariables false

theorem lower_any (c : UInt8) (w : World) : Calls Try.prog 42 #[.int .u8 c.toNat] w fun e w' => e = .returned (.bool (decide (97 ≤ c.toNat) && decide (c.toNat ≤ 122))) ∧ w = w' := by
  have hc := c.toNat_lt
  generalize c.toNat = x at *
  by_cases h1 : (97 : Int) ≤ x
  · by_cases h2 : (x : Int) ≤ 122
    · go_enter Try.func42, Try.ntmps42
      go_wp2_with fail
      go_ret
      exact ⟨by rw [decide_eq_true (show 97 ≤ x by omega), decide_eq_true (show x ≤ 122 by omega)]; rfl, rfl⟩
    · go_enter Try.func42, Try.ntmps42
      go_wp2_with fail
      go_ret
      exact ⟨by rw [decide_eq_true (show 97 ≤ x by omega), decide_eq_false (show ¬ x ≤ 122 by omega)]; rfl, rfl⟩
  · go_enter Try.func42, Try.ntmps42
    go_wp2_with fail
    go_ret
    exact ⟨by rw [decide_eq_false (show ¬ 97 ≤ x by omega)]; rfl, rfl⟩

theorem upper_any (c : UInt8) (w : World) : Calls Try.prog 43 #[.int .u8 c.toNat] w fun e w' => e = .returned (.bool (decide (65 ≤ c.toNat) && decide (c.toNat ≤ 90))) ∧ w = w' := by
  have hc := c.toNat_lt
  generalize c.toNat = x at *
  by_cases h1 : (65 : Int) ≤ x
  · by_cases h2 : (x : Int) ≤ 90
    · go_enter Try.func43, Try.ntmps43
      go_wp2_with fail
      go_ret
      exact ⟨by rw [decide_eq_true (show 65 ≤ x by omega), decide_eq_true (show x ≤ 90 by omega)]; rfl, rfl⟩
    · go_enter Try.func43, Try.ntmps43
      go_wp2_with fail
      go_ret
      exact ⟨by rw [decide_eq_true (show 65 ≤ x by omega), decide_eq_false (show ¬ x ≤ 90 by omega)]; rfl, rfl⟩
  · go_enter Try.func43, Try.ntmps43
    go_wp2_with fail
    go_ret
    exact ⟨by rw [decide_eq_false (show ¬ 65 ≤ x by omega)]; rfl, rfl⟩

theorem digit_any (c : UInt8) (w : World) : Calls Try.prog 44 #[.int .u8 c.toNat] w fun e w' => e = .returned (.bool (decide (48 ≤ c.toNat) && decide (c.toNat ≤ 57))) ∧ w = w' := by
  have hc := c.toNat_lt
  generalize c.toNat = x at *
  by_cases h1 : (48 : Int) ≤ x
  · by_cases h2 : (x : Int) ≤ 57
    · go_enter Try.func44, Try.ntmps44
      go_wp2_with fail
      go_ret
      exact ⟨by rw [decide_eq_true (show 48 ≤ x by omega), decide_eq_true (show x ≤ 57 by omega)]; rfl, rfl⟩
    · go_enter Try.func44, Try.ntmps44
      go_wp2_with fail
      go_ret
      exact ⟨by rw [decide_eq_true (show 48 ≤ x by omega), decide_eq_false (show ¬ x ≤ 57 by omega)]; rfl, rfl⟩
  · go_enter Try.func44, Try.ntmps44
    go_wp2_with fail
    go_ret
    exact ⟨by rw [decide_eq_false (show ¬ 48 ≤ x by omega)]; rfl, rfl⟩

/-- The marks. -/
def MK : List UInt8 := [43, 45, 46, 95]
theorem indexByte_mem : ∀ (l : List UInt8) (c : UInt8), (l.contains c = true → 0 ≤ Lib.indexByte l c) ∧ (l.contains c = false → Lib.indexByte l c = -1)
  | [], c => by simp [Lib.indexByte]
  | b :: l, c => by
    have ih := indexByte_mem l c
    unfold Lib.indexByte
    by_cases h : b = c
    · subst h; simp
    · have h' : (b == c) = false := by simp [h]
      rw [h']
      have hc : (b :: l).contains c = l.contains c := by simp [Ne.symm h]
      rw [hc]
      refine ⟨fun h1 => ?_, fun h1 => ?_⟩
      · have := ih.1 h1
        have h2 : (Lib.indexByte l c == -1) = false := by simp; omega
        rw [h2]
        simp
        omega
      · rw [ih.2 h1]; rfl

theorem mark_any (c : UInt8) (w : World) : Calls Try.prog 45 #[.int .u8 c.toNat] w fun e w' => e = .returned (.bool (MK.contains c)) ∧ w = w' := by
  go_enter Try.func45, Try.ntmps45
  go_wp2_with fail
  refine (Try.strings_IndexByte _ _ _).mono ?_
  rintro e w1 ⟨rfl, rfl⟩
  have e1 : (c.toNat : Int).toNat.toUInt8 = c := by
    have : (c.toNat : Int).toNat = c.toNat := by omega
    rw [this]; simp
  rw [e1, show (ByteArray.mk #[43, 45, 46, 95]).data.toList = MK from rfl]
  have hi := indexByte_mem MK c
  generalize Lib.indexByte MK c = v at *
  cases hm : MK.contains c with
  | true =>
    have h0 := hi.1 hm
    go_wp2_with fail
    go_ret
    exact ⟨by rw [hm]; rfl, rfl⟩
  | false =>
    obtain rfl := hi.2 hm
    go_wp2_with fail
    go_ret
    exact ⟨by rw [hm]; rfl, rfl⟩

def okC (c : UInt8) : Bool := (decide (97 ≤ c.toNat) && decide (c.toNat ≤ 122)) || (decide (65 ≤ c.toNat) && decide (c.toNat ≤ 90)) || (decide (48 ≤ c.toNat) && decide (c.toNat ≤ 57)) || MK.contains c

set_option maxRecDepth 100000 in
set_option maxHeartbeats 1000000 in
theorem any_any (c : UInt8) (B : Nat) (w : World) (h0 : w.cell? ⟨B, 0, none⟩ = some (.func (.func 42) #[] #[])) (h1 : w.cell? ⟨B, 1, none⟩ = some (.func (.func 43) #[] #[])) (h2 : w.cell? ⟨B, 2, none⟩ = some (.func (.func 44) #[] #[])) (h3 : w.cell? ⟨B, 3, none⟩ = some (.func (.func 45) #[] #[])) :
    Calls Try.prog 47 #[.int .u8 c.toNat, .slice (some ⟨B, 0, none⟩) 4 4] w fun e w' => e = .returned (.bool (okC c)) ∧ w = w' := by
  have hok : okC c = ((decide (97 ≤ c.toNat) && decide (c.toNat ≤ 122)) || (decide (65 ≤ c.toNat) && decide (c.toNat ≤ 90)) || (decide (48 ≤ c.toNat) && decide (c.toNat ≤ 57)) || MK.contains c) := rfl
  have C0 := fun W => lower_any c W
  have C1 := fun W => upper_any c W
  have C2 := fun W => digit_any c W
  have C3 := fun W => mark_any c W
  generalize (decide (97 ≤ c.toNat) && decide (c.toNat ≤ 122)) = b0 at hok C0
  generalize (decide (65 ≤ c.toNat) && decide (c.toNat ≤ 90)) = b1 at hok C1
  generalize (decide (48 ≤ c.toNat) && decide (c.toNat ≤ 57)) = b2 at hok C2
  generalize MK.contains c = b3 at hok C3
  have HO := hid hok
  have D0 := hid C0
  have D1 := hid C1
  have D2 := hid C2
  have D3 := hid C3
  clear hok C0 C1 C2 C3
  go_enter Try.func47, Try.ntmps47
  go_wp2_with fail
  go_loopg [9] 4 (fun m i wr => ∃ k : Nat, m + k = 4 ∧ i = .int .i64 k ∧ (0 < k → b0 = false) ∧ (1 < k → b1 = false) ∧ (2 < k → b2 = false) ∧ (3 < k → b3 = false) ∧ w = wr)
  case atStart => exact ⟨0, rfl, rfl, by omega, by omega, by omega, by omega, rfl⟩
  case round =>
    obtain ⟨k, hk, rfl, f0, f1, f2, f3, rfl⟩ := hrel
    have HM := hid hk
    have hk4 : k ≤ 4 := by omega
    have F0 := hid f0
    have F1 := hid f1
    have F2 := hid f2
    have F3 := hid f3
    clear hk f0 f1 f2 f3
    match k, hk4 with
    | 0, _ =>
      go_wp2_with fail
      refine (D0.out _).mono ?_
      rintro e w1 ⟨rfl, rfl⟩
      cases hb : b0 with
      | true =>
        go_wp2_with fail
        go_ret
        exact ⟨by rw [HO.out, hb]; simp, rfl⟩
      | false =>
        go_wp2_with fail
        go_roundg (gk - 1)
        case measure => go_light; have := HM.out; omega
        case rel =>
          go_light
          have := HM.out
          exact ⟨1, by omega, int_cast (by omega), fun _ => hb, by omega, by omega, by omega, rfl⟩
    | 1, _ =>
      go_wp2_with fail
      refine (D1.out _).mono ?_
      rintro e w1 ⟨rfl, rfl⟩
      cases hb : b1 with
      | true =>
        go_wp2_with fail
        go_ret
        exact ⟨by rw [HO.out, hb]; simp, rfl⟩
      | false =>
        go_wp2_with fail
        go_roundg (gk - 1)
        case measure => go_light; have := HM.out; omega
        case rel =>
          go_light
          have := HM.out
          exact ⟨2, by omega, int_cast (by omega), fun _ => F0.out (by omega), fun _ => hb, by omega, by omega, rfl⟩
    | 2, _ =>
      go_wp2_with fail
      refine (D2.out _).mono ?_
      rintro e w1 ⟨rfl, rfl⟩
      cases hb : b2 with
      | true =>
        go_wp2_with fail
        go_ret
        exact ⟨by rw [HO.out, hb]; simp, rfl⟩
      | false =>
        go_wp2_with fail
        go_roundg (gk - 1)
        case measure => go_light; have := HM.out; omega
        case rel =>
          go_light
          have := HM.out
          exact ⟨3, by omega, int_cast (by omega), fun _ => F0.out (by omega), fun _ => F1.out (by omega), fun _ => hb, by omega, rfl⟩
    | 3, _ =>
      go_wp2_with fail
      refine (D3.out _).mono ?_
      rintro e w1 ⟨rfl, rfl⟩
      cases hb : b3 with
      | true =>
        go_wp2_with fail
        go_ret
        exact ⟨by rw [HO.out, hb]; simp, rfl⟩
      | false =>
        go_wp2_with fail
        go_roundg (gk - 1)
        case measure => go_light; have := HM.out; omega
        case rel =>
          go_light
          have := HM.out
          exact ⟨4, by omega, int_cast (by omega), fun _ => F0.out (by omega), fun _ => F1.out (by omega), fun _ => F2.out (by omega), fun _ => hb, rfl⟩
    | 4, _ =>
      go_wp2_with fail
      go_ret
      exact ⟨by rw [HO.out, F0.out (by omega), F1.out (by omega), F2.out (by omega), F3.out (by omega)]; rfl, rfl⟩

/-- A name's errno. -/
def nameE (l : List UInt8) : Int := if 20 < l.length then 3 else if l.all okC = false then 2 else if l = [] ∨ l.head? = some 46 then 2 else 0

theorem cell_new4 (w : World) (vs : Array Value) (T i : Nat) (x : Value) (h : vs[i]? = some x) : (w.alloc (.cells vs T)).cell? ⟨w.heap.size, i, none⟩ = some x := by
  have e1 : (w.alloc (.cells vs T)).heap[w.heap.size]? = some (.cells vs T) := (MapKept.heap_alloc w _).1
  rw [World.cell?, e1]
  exact h
theorem str_ne {l m : List UInt8} (h : l ≠ m) : ((⟨l.toArray⟩ : ByteArray) = ⟨m.toArray⟩) = False := by
  simp [h]

set_option maxRecDepth 100000 in
set_option maxHeartbeats 1000000 in
theorem check_any (l : List UInt8) (hl : l.length ≤ 1000000) (w : World) :
    Calls Try.prog 24 #[.string ⟨l.toArray⟩] w fun e w' => e = .returned (.int .i64 (nameE l)) ∧ Below w.heap.size w w' := by
  by_cases h20 : (20 : Int) < l.length
  · go_enter Try.func24, Try.ntmps24
    go_wp2_with fail
    go_ret
    exact ⟨by rw [nameE, if_pos (by omega)]; rfl, Below.refl _ _⟩
  · go_enter Try.func24, Try.ntmps24
    go_wp2_with fail
    go_loopg [13] l.length (fun m i wr => ∃ k : Nat, m + k = l.length ∧ i = .int .i64 k ∧ (l.take k).all okC = true ∧ Below w.heap.size w wr)
    case atStart => exact ⟨0, rfl, rfl, rfl, Below.refl _ _⟩
    case round =>
      obtain ⟨k, hk, rfl, hall, hB⟩ := hrel
      have HM := hid hk
      by_cases hlt : k < l.length
      · have hix := fun W => run_index_at (P := Try.prog) 9 Try.underlying9 l k hlt _ rfl (k : Int) rfl .i64 W
        have e1 : l.take (k + 1) = l.take k ++ [l.getD k 0] := by
          rw [List.take_succ_eq_append_getElem hlt]
          simp [List.getD, List.getElem?_eq_getElem hlt]
        have hmem : l.getD k 0 ∈ l := by
          rw [List.getD, List.getElem?_eq_getElem hlt]
          exact List.getElem_mem hlt
        generalize l.getD k 0 = c at hix e1 hmem
        have i32 : (k : Int) < (l.length : Int) := by omega
        have HE := hid e1
        have HA := hid hall
        clear e1 hall hk
        go_wp2_with fail
        refine (any_any c wr.heap.size _ (cell_new4 _ _ _ 0 _ rfl) (cell_new4 _ _ _ 1 _ rfl) (cell_new4 _ _ _ 2 _ rfl) (cell_new4 _ _ _ 3 _ rfl)).mono ?_
        rintro e w1 ⟨rfl, rfl⟩
        cases hb : okC c with
        | true =>
          have HB := hid hb
          clear hb
          go_wp2_with fail
          go_roundg (gk - 1)
          case measure => go_light; have := HM.out; omega
          case rel =>
            go_light
            have := HM.out
            exact ⟨k + 1, by omega, int_cast (by omega), by rw [HE.out, List.all_append, HA.out, List.all_cons, HB.out]; rfl, hB.alloc hB.size _⟩
        | false =>
          have hno : nameE l = 2 := by
            unfold nameE
            rw [if_neg (by omega), if_pos (by rw [List.all_eq_false]; exact ⟨c, hmem, by rw [hb]; decide⟩)]
          have HN := hid hno
          clear hb hno
          go_wp2_with fail
          go_ret
          exact ⟨by rw [HN.out]; rfl, hB.alloc hB.size _⟩
      · obtain rfl : k = l.length := by omega
        rw [List.take_length] at hall
        clear hk HM hlt
        have hne : nameE l = if l = [] ∨ l.head? = some 46 then 2 else 0 := by
          unfold nameE
          rw [if_neg (by omega), if_neg (by rw [hall]; decide)]
        have HN := hid hne
        clear hne hall
        by_cases h0 : l = []
        · subst h0
          rw [show (([] : List UInt8).length : Int) = 0 from rfl]
          go_wp2_with fail
          go_ret
          exact ⟨by rw [HN.out]; rfl, hB⟩
        · have h00 : l.isEmpty = false := by cases l with | nil => exact absurd rfl h0 | cons a t => rfl
          have hp : 0 < l.length := by cases l with | nil => exact absurd rfl h0 | cons a t => simp
          have hix := fun W => run_index_at (P := Try.prog) 9 Try.underlying9 l 0 hp _ rfl 0 rfl .i64 W
          have hhd : l.head? = some (l.getD 0 0) := by
            rw [List.head?_eq_getElem?, List.getD, List.getElem?_eq_getElem hp]
            rfl
          generalize l.getD 0 0 = a at hix hhd
          have HH := hid hhd
          have H0 := hid h0
          clear hhd hp h0
          by_cases ha : a = 46
          · subst ha
            go_wp2_with fail
            go_ret
            exact ⟨by rw [HN.out, if_pos (Or.inr HH.out)]; rfl, hB⟩
          · have hai : ((a.toNat : Int) == 46) = false := by
              rw [beq_eq_false_iff_ne]
              intro e
              apply ha
              exact UInt8.toNat_inj.1 (by have : a.toNat = 46 := by omega
                                          rw [this]; rfl)
            go_wp2_with fail
            go_ret
            exact ⟨by rw [HN.out, if_neg (by rintro (e | e); exact H0.out e; rw [HH.out] at e; exact ha (Option.some.inj e))]; rfl, hB⟩
end Go.Proofs.Ythacopmahjcmaaa
