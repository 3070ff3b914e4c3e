/-
  The walks of the law's helpers: bare, quoted, three, rows.
-/
import Derived.Test.YtklihdlfbhgpeaaG14
namespace Go.Proofs.Ytklihdlfbhgpeaa
open Go.RowKit
set_option linter.unusedVariables false

theorem pat_new (w : World) (rs : List RunV) (hn : rs.length ≤ 100000) (he : ∀ r ∈ rs, r.t.length ≤ 1000000) (ha : (chs rs).length ≤ 1000000) :
    Pat (w.alloc (.cells (rnv rs).toArray 33)) (some ⟨w.heap.size, 0, none⟩) rs := by
  refine ⟨⟨rnv_length rs, fun _ => ⟨w.heap.size, 0, rfl, by simp, fun j u hu => ?_⟩⟩, hn, he, ha⟩
  rw [(At.new w 33 _).cell, Nat.zero_add, ← hu]
  simp
/-- A pattern that is handed back. -/
def PatOut (w : World) (rs : List RunV) (e : Ending) (w' : World) : Prop := ∃ B, e = .returned (.slice (some ⟨B, 0, none⟩) rs.length rs.length) ∧ Pat w' (some ⟨B, 0, none⟩) rs ∧ Below w.heap.size w w'
theorem bare_any (s : List UInt8) (hs : s.length ≤ 1000000) (w : World) : Calls Try.prog 15 #[.string ⟨s.toArray⟩] w (PatOut w [⟨s, false, false⟩]) := by
  have hp := hid (pat_new w [⟨s, false, false⟩] (by simp) (by simpa using hs) (by simpa [chs, chr] using hs))
  go_enter Try.func15, Try.ntmps15
  go_wp2
  go_ret
  exact ⟨_, rfl, hp.out, (Below.refl _ _).alloc (Nat.le_refl _) _⟩
theorem quoted_any (s : List UInt8) (hs : s.length ≤ 1000000) (w : World) : Calls Try.prog 23 #[.string ⟨s.toArray⟩] w (PatOut w [⟨s, true, false⟩]) := by
  have hp := hid (pat_new w [⟨s, true, false⟩] (by simp) (by simpa using hs) (by simpa [chs, chr] using hs))
  go_enter Try.func23, Try.ntmps23
  go_wp2
  go_ret
  exact ⟨_, rfl, hp.out, (Below.refl _ _).alloc (Nat.le_refl _) _⟩
theorem three_any (a b c : List UInt8) (ha : a.length ≤ 1000) (hb : b.length ≤ 1000) (hc : c.length ≤ 1000) (w : World) :
    Calls Try.prog 16 #[.string ⟨a.toArray⟩, .string ⟨b.toArray⟩, .string ⟨c.toArray⟩] w (PatOut w [⟨a, false, false⟩, ⟨b, true, false⟩, ⟨c, false, false⟩]) := by
  have hp := hid (pat_new w [⟨a, false, false⟩, ⟨b, true, false⟩, ⟨c, false, false⟩] (by simp) (by simp; omega) (by simp [chs, chr]; omega))
  go_enter Try.func16, Try.ntmps16
  go_wp2
  go_ret
  exact ⟨_, rfl, hp.out, (Below.refl _ _).alloc (Nat.le_refl _) _⟩

/-- The cells of a row of texts. -/
def txv (l : List (List UInt8)) : List Value := l.map fun s => .string ⟨s.toArray⟩
theorem txv_get (l : List (List UInt8)) (i : Nat) (h : i < l.length) : (txv l)[i]? = some (.string ⟨(l.getD i []).toArray⟩) := by
  simp [txv, List.getD, List.getElem?_eq_getElem h]
theorem txv_length (l : List (List UInt8)) : (txv l).length = l.length * 1 := by simp [txv]
theorem txs_at {w : World} {g : Nat} {ts : List (List UInt8)} (h : At w g 9 (txv ts).toArray) : Rc w 1 (some ⟨g, 0, none⟩) ts.length (txv ts) :=
  ⟨txv_length ts, fun _ => ⟨g, 0, rfl, h.lt, fun j u hu => by rw [h.cell, Nat.zero_add, ← hu]; simp⟩⟩
/-- Does a pattern match the first texts, and none of the others? -/
def rowsOk (rs : List RunV) (ys ns : List (List UInt8)) : Bool := ys.all (fun s => matchP (pieces (chs rs)) s) && ns.all (fun s => !matchP (pieces (chs rs)) s)
theorem rowsOk_yes {rs : List RunV} {ys ns : List (List UInt8)} (h : rowsOk rs ys ns = true) {i : Nat} (hi : i < ys.length) : matchP (pieces (chs rs)) (ys.getD i []) = true := by
  rw [rowsOk, Bool.and_eq_true, List.all_eq_true] at h
  refine h.1 _ ?_
  rw [List.getD, List.getElem?_eq_getElem hi]
  exact List.getElem_mem hi
theorem rowsOk_no {rs : List RunV} {ys ns : List (List UInt8)} (h : rowsOk rs ys ns = true) {i : Nat} (hi : i < ns.length) : matchP (pieces (chs rs)) (ns.getD i []) = false := by
  rw [rowsOk, Bool.and_eq_true, List.all_eq_true, List.all_eq_true] at h
  have := h.2 (ns.getD i []) (by
    rw [List.getD, List.getElem?_eq_getElem hi]
    exact List.getElem_mem hi)
  simpa using this

set_option maxRecDepth 100000 in
set_option maxHeartbeats 1000000 in
theorem rows_true (A Y N : Option Addr) (c cy cn : Nat) (rs : List RunV) (ys ns : List (List UInt8)) (w : World) (hp : Pat w A rs) (hy : Rc w 1 Y ys.length (txv ys)) (hn : Rc w 1 N ns.length (txv ns))
    (hyl : ys.length ≤ 1000) (hnl : ns.length ≤ 1000) (hye : ∀ s ∈ ys, s.length ≤ 1000000) (hne : ∀ s ∈ ns, s.length ≤ 1000000) (hok : rowsOk rs ys ns = true) :
    Calls Try.prog 24 #[.slice A rs.length c, .slice Y ys.length cy, .slice N ns.length cn] w fun e w' => e = .returned (.bool true) ∧ Below w.heap.size w w' := by
  have HOK := hid hok
  have HP := hid hp
  have HY := hid hy
  have HN := hid hn
  have HYE := hid hye
  have HNE := hid hne
  have hylI : (ys.length : Int) ≤ 1000 := by omega
  have hnlI : (ns.length : Int) ≤ 1000 := by omega
  clear hok hp hy hn hye hne
  go_enter Try.func24, Try.ntmps24
  go_wp2_with fail
  go_loopg [7] ys.length (fun m v7 wr => ∃ i : Nat, m + i = ys.length ∧ v7 = .int .i64 i ∧ Below w.heap.size w wr)
  case atStart => exact ⟨0, rfl, rfl, Below.refl _ _⟩
  case round =>
    obtain ⟨i, hm, rfl, hB⟩ := hrel
    have HM := hid hm
    clear hm
    by_cases hlt : i < ys.length
    · have hiI : (i : Int) < ys.length := by omega
      obtain ⟨b, off, hA, hb, hc⟩ := (HY.out.below hB).2 (by omega)
      subst hA
      have hcell := hc i _ (txv_get ys i hlt)
      have hsl : (ys.getD i []).length ≤ 1000000 := HYE.out _ (by rw [List.getD, List.getElem?_eq_getElem hlt]; exact List.getElem_mem hlt)
      have hyes := rowsOk_yes HOK.out hlt
      obtain ⟨s, hs⟩ : ∃ s, s = ys.getD i [] := ⟨_, rfl⟩
      rw [← hs] at hcell hsl hyes
      have hmt := match_any' A c rs s hsl wr (HP.out.below hB)
      rw [hyes] at hmt
      have HMT := hid hmt
      clear hc hs hyes hmt
      go_wp2_with fail
      refine HMT.out.mono ?_
      rintro e w1 ⟨rfl, hB1⟩
      have hB2 := hB.trans (hB1.mono hB.size)
      clear HMT hB1 hcell
      go_wp2_with fail
      go_roundg (gk - 1)
      case measure => go_light; have := HM.out; omega
      case rel =>
        go_light
        have := HM.out
        exact ⟨i + 1, by omega, int_cast (by omega), hB2⟩
    · have := HM.out
      obtain rfl : i = ys.length := by omega
      clear this hlt
      go_wp2_with fail
      go_loopg [8] ns.length (fun m v8 wx => ∃ i : Nat, m + i = ns.length ∧ v8 = .int .i64 i ∧ Below w.heap.size w wx)
      case atStart => exact ⟨0, rfl, rfl, hB⟩
      case round =>
        clear hB
        obtain ⟨i, hm, rfl, hB⟩ := hrel
        have HM := hid hm
        clear hm
        by_cases hlt : i < ns.length
        · have hiI : (i : Int) < ns.length := by omega
          obtain ⟨b, off, hA, hb, hc⟩ := (HN.out.below hB).2 (by omega)
          subst hA
          have hcell := hc i _ (txv_get ns i hlt)
          have hsl : (ns.getD i []).length ≤ 1000000 := HNE.out _ (by rw [List.getD, List.getElem?_eq_getElem hlt]; exact List.getElem_mem hlt)
          have hno := rowsOk_no HOK.out hlt
          obtain ⟨s, hs⟩ : ∃ s, s = ns.getD i [] := ⟨_, rfl⟩
          rw [← hs] at hcell hsl hno
          have hmt := match_any' A c rs s hsl wr (HP.out.below hB)
          rw [hno] at hmt
          have HMT := hid hmt
          clear hc hs hno hmt
          go_wp2_with fail
          refine HMT.out.mono ?_
          rintro e w1 ⟨rfl, hB1⟩
          have hB2 := hB.trans (hB1.mono hB.size)
          clear HMT hB1 hcell
          go_wp2_with fail
          go_roundg (gk - 1)
          case measure => go_light; have := HM.out; omega
          case rel =>
            go_light
            have := HM.out
            exact ⟨i + 1, by omega, int_cast (by omega), hB2⟩
        · have := HM.out
          obtain rfl : i = ns.length := by omega
          clear this hlt
          go_wp2_with fail
          go_ret
          exact ⟨rfl, hB⟩
/-- Texts that the call lays itself. -/
theorem rows_lits {A : Option Addr} {c : Nat} {rs : List RunV} (ys ns : List (List UInt8)) {w : World} (hp : Pat w A rs)
    (hl : (decide (ys.length ≤ 1000) && decide (ns.length ≤ 1000) && ys.all (fun s => decide (s.length ≤ 1000)) && ns.all (fun s => decide (s.length ≤ 1000))) = true) (hok : rowsOk rs ys ns = true) :
    Calls Try.prog 24 #[.slice A rs.length c, .slice (some ⟨w.heap.size, 0, none⟩) ys.length ys.length, .slice (some ⟨w.heap.size + 1, 0, none⟩) ns.length ns.length]
      ((w.alloc (.cells (txv ys).toArray 9)).alloc (.cells (txv ns).toArray 9)) fun e w' => e = .returned (.bool true) ∧ Below w.heap.size w w' := by
  simp only [Bool.and_eq_true, decide_eq_true_iff, List.all_eq_true] at hl
  have hB : Below w.heap.size w ((w.alloc (.cells (txv ys).toArray 9)).alloc (.cells (txv ns).toArray 9)) := ((Below.refl _ _).alloc (Nat.le_refl _) _).alloc (by simp) _
  refine (rows_true A _ _ c _ _ rs ys ns _ (hp.below hB) (txs_at ((At.new _ _ _).alloc _)) (txs_at (At.new' _ _ _ (by simp))) hl.1.1.1 hl.1.1.2 (fun s h => Nat.le_trans (hl.1.2 s h) (by decide)) (fun s h => Nat.le_trans (hl.2 s h) (by decide)) hok).mono ?_
  rintro e w' ⟨he, hb⟩
  exact ⟨he, hB.trans (hb.mono (by simp; omega))⟩
theorem rows_yes {A : Option Addr} {c : Nat} {rs : List RunV} (ys : List (List UInt8)) {w : World} (hp : Pat w A rs)
    (hl : (decide (ys.length ≤ 1000) && ys.all (fun s => decide (s.length ≤ 1000))) = true) (hok : rowsOk rs ys [] = true) :
    Calls Try.prog 24 #[.slice A rs.length c, .slice (some ⟨w.heap.size, 0, none⟩) ys.length ys.length, .slice none 0 0]
      (w.alloc (.cells (txv ys).toArray 9)) fun e w' => e = .returned (.bool true) ∧ Below w.heap.size w w' := by
  simp only [Bool.and_eq_true, decide_eq_true_iff, List.all_eq_true] at hl
  have hB : Below w.heap.size w (w.alloc (.cells (txv ys).toArray 9)) := (Below.refl _ _).alloc (Nat.le_refl _) _
  refine (rows_true A _ none c _ _ rs ys [] _ (hp.below hB) (txs_at (At.new _ _ _)) Rc.nil hl.1 (by simp) (fun s h => Nat.le_trans (hl.2 s h) (by decide)) (by simp) hok).mono ?_
  rintro e w' ⟨he, hb⟩
  exact ⟨he, hB.trans (hb.mono (by simp))⟩
theorem rows_no {A : Option Addr} {c : Nat} {rs : List RunV} (ns : List (List UInt8)) {w : World} (hp : Pat w A rs)
    (hl : (decide (ns.length ≤ 1000) && ns.all (fun s => decide (s.length ≤ 1000))) = true) (hok : rowsOk rs [] ns = true) :
    Calls Try.prog 24 #[.slice A rs.length c, .slice none 0 0, .slice (some ⟨w.heap.size, 0, none⟩) ns.length ns.length]
      (w.alloc (.cells (txv ns).toArray 9)) fun e w' => e = .returned (.bool true) ∧ Below w.heap.size w w' := by
  simp only [Bool.and_eq_true, decide_eq_true_iff, List.all_eq_true] at hl
  have hB : Below w.heap.size w (w.alloc (.cells (txv ns).toArray 9)) := (Below.refl _ _).alloc (Nat.le_refl _) _
  refine (rows_true A none _ c _ _ rs [] ns _ (hp.below hB) Rc.nil (txs_at (At.new _ _ _)) (by simp) hl.1 (by simp) (fun s h => Nat.le_trans (hl.2 s h) (by decide)) hok).mono ?_
  rintro e w' ⟨he, hb⟩
  exact ⟨he, hB.trans (hb.mono (by simp))⟩
end Go.Proofs.Ytklihdlfbhgpeaa
