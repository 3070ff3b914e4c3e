/-
  The walk of cut: the first fourteen characters of a pattern.
-/
import Derived.Test.YtklihdlfbhgpeaaG15
namespace Go.Proofs.Ytklihdlfbhgpeaa
open Go.RowKit
set_option linter.unusedVariables false

def cutGo : Nat → List RunV → List RunV
  | _, [] => []
  | n, r :: rs => ⟨r.t.take n, r.q, r.s⟩ :: cutGo (n - (r.t.take n).length) rs
/-- The first fourteen characters. -/
def cutL (rs : List RunV) : List RunV := cutGo 14 (rs.take 14)
theorem cutGo_len : ∀ (n : Nat) (rs : List RunV), (cutGo n rs).length = rs.length
  | _, [] => rfl
  | n, r :: rs => by rw [cutGo, List.length_cons, List.length_cons, cutGo_len _ rs]
theorem chs_cons (r : RunV) (rs : List RunV) : (chs (r :: rs)).length = r.t.length + (chs rs).length := by simp [chs, chr]
theorem cutGo_all : ∀ (n : Nat) (rs : List RunV), (chs (cutGo n rs)).length ≤ n
  | _, [] => by simp [cutGo, chs]
  | n, r :: rs => by
    have := cutGo_all (n - (r.t.take n).length) rs
    rw [cutGo, chs_cons]
    simp only [List.length_take] at this ⊢
    omega
theorem cutGo_snoc : ∀ (n : Nat) (rs : List RunV) (r : RunV), cutGo n (rs ++ [r]) = cutGo n rs ++ [⟨r.t.take (n - (chs (cutGo n rs)).length), r.q, r.s⟩]
  | n, [], r => by simp [cutGo, chs]
  | n, x :: rs, r => by
    rw [List.cons_append, cutGo, cutGo_snoc _ rs r, cutGo, chs_cons, List.cons_append]
    simp only [Nat.sub_sub]
theorem each_le {l : List RunV} {r : RunV} (h : r ∈ l) : r.t.length ≤ (chs l).length := by
  obtain ⟨a, b, rfl⟩ := List.append_of_mem h
  rw [chs_append, List.length_append, chs_cons]
  omega
theorem pat_cut {w : World} {B : Option Addr} {rs : List RunV} (h : Rns w B (cutL rs)) : Pat w B (cutL rs) := by
  have h1 := cutGo_all 14 (rs.take 14)
  have h2 : (cutL rs).length ≤ 14 := by rw [cutL, cutGo_len, List.length_take]; omega
  exact ⟨h, by omega, fun r hr => by have := each_le hr; unfold cutL at this; omega, by unfold cutL; omega⟩
/-- What cut hands back. -/
def CutOut (rs : List RunV) (w : World) (e : Ending) (w' : World) : Prop := (∃ B d, e = .returned (.slice B (cutL rs).length d) ∧ Pat w' B (cutL rs)) ∧ Below w.heap.size w w'
theorem info33 : (Try.prog.info? 33).map (fun i => (i.zero, i.size, i.bytes)) = some (some (.agg #[.string ⟨#[]⟩, .bool false, .bool false]), 3, 24) := by kernel_rfl

set_option maxRecDepth 100000 in
set_option maxHeartbeats 2000000 in
theorem cut_any (A : Option Addr) (c : Nat) (rs : List RunV) (hn : rs.length ≤ maxLen) (w : World) (hr : Rns w A rs) :
    Calls Try.prog 10 #[.slice A rs.length c] w (CutOut rs w) := by
  obtain ⟨i0, hi, hz0, hz1, hz2⟩ := info_parts info33
  have HR := hid hr
  unfold maxLen at hn
  clear hr
  go_enter Try.func10, Try.ntmps10
  go_wp2_with fail
  go_loopg [3, 4, 5] 14 (fun m v3 v4 v5 wr => ∃ k : Nat, m + k = 14 ∧ k ≤ rs.length ∧ v5 = .int .i64 k ∧ v3 = .int .i64 ((14 - (chs (cutGo 14 (rs.take k))).length : Nat) : Int) ∧
    wr.ownsRow w.heap.size 33 3 v4 (cutGo 14 (rs.take k)).length (rnv (cutGo 14 (rs.take k))) ∧ Below w.heap.size w wr)
  case atStart => exact ⟨0, rfl, by omega, rfl, rfl, World.ownsRow_nil _ _ _ _, Below.refl _ _⟩
  case round =>
    obtain ⟨k, hm, hkl, rfl, rfl, hown, hB⟩ := hrel
    have HM := hid hm
    clear hm
    by_cases hlt : k < rs.length
    · by_cases h14 : k < 14
      · have hkI : (k : Int) < rs.length := by omega
        have hkJ : (k : Int) < 14 := by omega
        obtain ⟨b, off, rfl, hb, a1, a2, a3⟩ := Rns.at_ (Rc.below HR.out hB) hlt
        have hsn := cutGo_snoc 14 (rs.take k) (rs.getD k run0)
        rw [← getD_succ rs run0 hlt] at hsn
        have hcl := cutGo_len 14 (rs.take k)
        have hall := cutGo_all 14 (rs.take (k + 1))
        obtain ⟨r, hr⟩ : ∃ r, r = rs.getD k run0 := ⟨_, rfl⟩
        rw [← hr] at a1 a2 a3 hsn
        obtain ⟨t, q, s⟩ := r
        dsimp only at a1 a2 a3 hsn
        obtain ⟨pre, hpre⟩ : ∃ pre, pre = cutGo 14 (rs.take k) := ⟨_, rfl⟩
        rw [← hpre] at hsn hown hcl ⊢
        obtain ⟨lf, hlf⟩ : ∃ lf, lf = 14 - (chs pre).length := ⟨_, rfl⟩
        rw [← hlf] at hsn ⊢
        obtain ⟨m, hm⟩ : ∃ m, m = min t.length lf := ⟨_, rfl⟩
        have hmin : min (t.length : Int) (lf : Int) = (m : Int) := by omega
        have hmt : (m : Int) ≤ t.length := by omega
        have hm0 : (0 : Int) ≤ (m : Int) := by omega
        have hmlf : (m : Int) ≤ lf := by omega
        have hlf14 : (lf : Int) ≤ 14 := by omega
        have htk : t.take lf = t.take m := by rw [hm]; exact List.take_eq_take_min.trans (by rw [Nat.min_comm])
        have htm : (t.take m).length = m := by rw [List.length_take]; omega
        rw [htk] at hsn
        have HSN := hid hsn
        have HLF := hid hlf
        have HTM := hid htm
        have hcl14 : pre.length ≤ 13 := by rw [hcl, List.length_take]; omega
        clear hsn hr hpre hcl hlf htk hm htm hall
        go_wp2_with (at_builtin; refine wpList_append_own _ rfl (.tmp 35) (.tmp 37) 22 rfl w.heap.size 33 i0 (.agg #[.string ⟨#[]⟩, .bool false, .bool false]) 3 24 Try.underlying22 hi hz0 hz1 hz2 rfl (by decide) u4 pre.length _ rfl ((hown.alloc _).alloc _) ⟨wr.heap.size + 1, 0, none⟩ 1 1 [.string ⟨(t.take m).toArray⟩, .bool q, .bool s] rfl rfl (World.news_of_block (cs := #[.string ⟨(t.take m).toArray⟩, .bool q, .bool s]) (At.new' _ 33 _ (by simp))) (by simp [Value.oneCell']) (by unfold maxLen; omega) (by omega) (by have := hB.size; simp; omega) ?_; intro v' w3 hown' hgrow _)
        have hB3 : Below w.heap.size w w3 := ((hB.alloc hB.size _).alloc (by have := hB.size; simp; omega) _).grown hgrow (by have := hB.size; simp; omega) (fun j hj => (hown.lt j hj).1)
        go_roundg (gk - 1)
        case measure => go_light; have := HM.out; omega
        case rel =>
          go_light
          have := HM.out
          have e1 : (chs (pre ++ [⟨t.take m, q, s⟩])).length = (chs pre).length + m := by
            rw [chs_append, List.length_append, chs_cons]
            have := HTM.out
            dsimp only
            rw [this]
            simp [chs]
          refine ⟨k + 1, by omega, by omega, int_cast (by omega), ?_, ?_, hB3⟩
          · rw [HSN.out, e1]
            have := HLF.out
            exact int_cast (by omega)
          · rw [HSN.out, rnv_append, List.length_append]
            exact hown'
      · have := HM.out
        obtain rfl : k = 14 := by omega
        have hkI : ((14 : Nat) : Int) < rs.length := by omega
        have hf : ∃ B d, u4 = .slice B (cutL rs).length d := by
          rcases hown.2 with ⟨h1, h2⟩ | ⟨g, cap, cur, h1, _⟩
          · exact ⟨none, 0, by rw [h1]; unfold cutL; rw [h2]⟩
          · exact ⟨_, _, h1⟩
        obtain ⟨B, d, rfl⟩ := hf
        have hcs : Rns wr B (cutL rs) := Rc.of_own hown
        have HCS := hid hcs
        clear hcs hown h14
        go_wp2_with fail
        go_ret
        exact ⟨⟨B, d, rfl, pat_cut HCS.out⟩, hB⟩
    · have hke : k = rs.length := by omega
      have hkt : rs.take k = rs.take 14 := by
        have := HM.out
        rw [List.take_of_length_le (by omega), List.take_of_length_le (by omega)]
      have hkI : ¬ (k : Int) < rs.length := by omega
      rw [hkt] at hown
      have hf : ∃ B d, u4 = .slice B (cutL rs).length d := by
        rcases hown.2 with ⟨h1, h2⟩ | ⟨g, cap, cur, h1, _⟩
        · exact ⟨none, 0, by rw [h1]; unfold cutL; rw [h2]⟩
        · exact ⟨_, _, h1⟩
      obtain ⟨B, d, rfl⟩ := hf
      have hcs : Rns wr B (cutL rs) := Rc.of_own hown
      have HCS := hid hcs
      clear hcs hown hke hkt
      go_wp2_with fail
      go_ret
      exact ⟨⟨B, d, rfl, pat_cut HCS.out⟩, hB⟩
end Go.Proofs.Ytklihdlfbhgpeaa
