/-
  The walks of the program's Magic and Plain.
-/
import Derived.Test.YtklihdlfbhgpeaaG8
import Derived.Shelf.Strings.Builder1
import Derived.Lib.AppendStr
namespace Go.Proofs.Ytklihdlfbhgpeaa
open Go.RowKit
set_option linter.unusedVariables false

theorem magic1_any (w W : World) (Lb : Nat) (f : Value) (p : Pc) (a : Bool) (h : PieceT w Lb f p) :
    Calls Try.prog 33 #[.agg #[.bool a, f, .bool p.odd]] W fun e w' => e = .returned (.bool p.odd) ∧ Below W.heap.size W w' := by
  cases p with
  | star =>
    obtain rfl : f = .nilFunc := h
    go_enter Try.func33, Try.ntmps33
    go_wp2
    go_ret
    exact ⟨rfl, (Below.refl _ _).alloc (Nat.le_refl _) _⟩
  | any =>
    obtain rfl : f = .func (.func 44) #[] #[] := h
    go_enter Try.func33, Try.ntmps33
    go_wp2
    go_ret
    exact ⟨rfl, (Below.refl _ _).alloc (Nat.le_refl _) _⟩
  | set neg ins =>
    obtain ⟨B1, B2, _, _, rfl, _⟩ := h
    go_enter Try.func33, Try.ntmps33
    go_wp2
    go_ret
    exact ⟨rfl, (Below.refl _ _).alloc (Nat.le_refl _) _⟩
  | lit x =>
    obtain ⟨B, q, rfl, _⟩ := h
    go_enter Try.func33, Try.ntmps33
    go_wp2
    go_ret
    exact ⟨rfl, (Below.refl _ _).alloc (Nat.le_refl _) _⟩

/-- Some number that is not negative just if a piece is special. -/
def OddAt (L : List Pc) (w : World) (e : Ending) (w' : World) : Prop := (∃ v : Int, e = .returned (.int .i64 v) ∧ decide (0 ≤ v) = L.any Pc.odd) ∧ Below w.heap.size w w'
theorem oneF {w : World} {Lb : Nat} {f : Value} {p : Pc} (h : PieceT w Lb f p) : f = .nilFunc ∨ ∃ k c, f = .func k #[] c := by
  cases p with
  | star => exact .inl h
  | any => exact .inr ⟨_, _, h⟩
  | set neg ins => obtain ⟨_, _, _, _, h, _⟩ := h; exact .inr ⟨_, _, h⟩
  | lit x => obtain ⟨_, _, h, _⟩ := h; exact .inr ⟨_, _, h⟩
set_option maxRecDepth 100000 in
set_option maxHeartbeats 1000000 in
theorem indexOdd_any (Lb : Nat) (v : Value) (L : List Pc) (hl : L.length ≤ 1000000) (w : World) (h : PcsAt w Lb v L) : Calls Try.prog 47 #[v, .func (.func 33) #[] #[]] w (OddAt L w) := by
  obtain ⟨A, c, rfl, hcell⟩ := h.form
  have HP := hid h
  have hlI : (L.length : Int) ≤ 1000000 := by omega
  clear hcell h
  go_enter Try.func47, Try.ntmps47
  go_wp2_with fail
  go_loopg [8] L.length (fun m v8 wr => ∃ k : Nat, m + k = L.length ∧ v8 = .int .i64 k ∧ (L.take k).any Pc.odd = false ∧ Below w.heap.size w wr)
  case atStart => exact ⟨0, rfl, rfl, rfl, Below.refl _ _⟩
  case round =>
    obtain ⟨k, hm, rfl, hno, hB⟩ := hrel
    have HM := hid hm
    have HN := hid hno
    clear hm hno
    by_cases hlt : k < L.length
    · obtain ⟨A3, c3, he, hcell⟩ := PcsAt.form (HP.out.below hB)
      injection he with he1 _ he2
      subst he1 he2
      obtain ⟨b, off, f, hA, hb, a1, a2, a3, hpt⟩ := hcell k hlt
      subst hA
      have hkI : (k : Int) < (L.length : Int) := by omega
      have htk := getD_succ L .star hlt
      generalize L.getD k .star = p at a1 a3 hpt htk
      have hm1 := fun W => magic1_any wr W Lb f p p.isStar hpt
      have HM1 := hid hm1
      have HTK := hid htk
      have HA : Hid ((L.take (k + 1)).any Pc.odd = p.odd) := hid (by rw [htk, List.any_append, HN.out]; simp)
      have hof := oneF hpt
      clear hcell hm1 htk hpt
      have hfin : ∀ (hf : p.odd = true), L.any Pc.odd = true := fun hf => by
        have h1 : (L.take (k + 1)).any Pc.odd = true := by rw [HA.out, hf]
        rw [List.any_eq_true] at h1 ⊢
        obtain ⟨x, hx, hx2⟩ := h1
        exact ⟨x, List.mem_of_mem_take hx, hx2⟩
      have HFIN := hid hfin
      clear hfin
      rcases hof with rfl | ⟨kf, cf, rfl⟩
      all_goals
        go_wp2_with fail
        refine (HM1.out _).mono ?_
        rintro e w1 ⟨rfl, hB1⟩
        have hB2 := hB.trans (hB1.mono hB.size)
        clear HM1 hB1 a1 a2 a3
        cases ho : p.odd with
        | true =>
          have HO := hid ho
          clear ho
          go_wp2_with fail
          go_ret
          exact ⟨⟨_, rfl, by rw [HFIN.out HO.out]; simp⟩, hB2⟩
        | false =>
          have HO := hid ho
          clear ho
          go_wp2_with fail
          go_roundg (gk - 1)
          case measure => go_light; have := HM.out; omega
          case rel =>
            go_light
            have := HM.out
            exact ⟨k + 1, by omega, int_cast (by omega), by rw [HA.out, HO.out], hB2⟩
    · have := HM.out
      obtain rfl : k = L.length := by omega
      clear this hlt
      go_wp2_with fail
      go_ret
      have hn := HN.out
      rw [List.take_length] at hn
      exact ⟨⟨_, rfl, by rw [hn]; rfl⟩, hB⟩
end Go.Proofs.Ytklihdlfbhgpeaa
