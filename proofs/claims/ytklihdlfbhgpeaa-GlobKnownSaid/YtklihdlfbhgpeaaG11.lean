/-
  The walks of the reference's Chars and set.
-/
import Derived.Test.YtklihdlfbhgpeaaG10
namespace Go.Proofs.Ytklihdlfbhgpeaa
open Go.RowKit
set_option linter.unusedVariables false

theorem info54 : (Try.prog.info? 54).map (fun i => (i.zero, i.size, i.bytes)) = some (some (.agg #[.int .u8 0, .bool false]), 2, 2) := by kernel_rfl

set_option maxRecDepth 100000 in
set_option maxHeartbeats 2000000 in
theorem refChars_any (A : Option Addr) (c : Nat) (rs : List RunV) (w : World) (hp : Pat w A rs) :
    Calls Try.prog 28 #[.slice A rs.length c] w fun e w' => (∃ B d, e = .returned (.slice B (chs rs).length d) ∧ (chs rs).length ≤ d ∧ d ≤ maxLen ∧ Cs w' B (chs rs)) ∧ Below w.heap.size w w' := by
  obtain ⟨i0, hi, hz0, hz1, hz2⟩ := info_parts info54
  have hnI : (rs.length : Int) ≤ 100000 := by have := hp.n; omega
  have hall := hp.all
  have HP := hid hp
  clear hp
  go_enter Try.func28, Try.ntmps28
  go_wp2_with fail
  go_loopg [3, 4] rs.length (fun m v3 v4 wr => ∃ k : Nat, m + k = rs.length ∧ v4 = .int .i64 k ∧ wr.ownsRow w.heap.size 54 2 v3 (chs (rs.take k)).length (chv (chs (rs.take k))) ∧ Below w.heap.size w wr)
  case atStart => exact ⟨0, rfl, rfl, World.ownsRow_nil _ _ _ _, Below.refl _ _⟩
  case round =>
    obtain ⟨k, hm, rfl, hown, hB⟩ := hrel
    obtain ⟨g0, rfl⟩ : ∃ g0 : Nat, g0 = gk := ⟨_, rfl⟩
    have HM := hid hm
    clear hm
    by_cases hlt : k < rs.length
    · obtain ⟨b, off, hA, hb0, _⟩ := Rns.at_ HP.out.rows hlt
      subst hA
      have hkI : (k : Int) < (rs.length : Int) := by omega
      have htk := chs_succ rs hlt
      have hdk := congrArg List.length (chs_split rs hlt)
      rw [List.length_append, List.length_append, chr, List.length_map] at hdk
      have HDK := hid hdk
      have HTK := hid htk
      clear htk hdk
      go_wp2_with fail
      go_loopg [3, 5] (rs.getD k run0).t.length (fun m v3 v5 wi => ∃ i : Nat, m + i = (rs.getD k run0).t.length ∧ v5 = .int .i64 i ∧
        wi.ownsRow w.heap.size 54 2 v3 (chs (rs.take k) ++ ((rs.getD k run0).t.take i).map fun b => (b, (rs.getD k run0).q)).length (chv (chs (rs.take k) ++ ((rs.getD k run0).t.take i).map fun b => (b, (rs.getD k run0).q))) ∧ Below w.heap.size w wi)
      case atStart => exact ⟨0, rfl, rfl, by simpa using hown, hB⟩
      case round =>
        clear hown hB
        obtain ⟨i, hm, rfl, hown, hB⟩ := hrel
        have HI := hid hm
        clear hm
        obtain ⟨b', off', hA', hb, a1, a2, a3⟩ := Rns.at_ (Rc.below HP.out.rows hB) hlt
        injection hA' with hA'
        injection hA' with e1 e2
        subst e1 e2
        have hdk := HDK.out
        have htk := HTK.out
        have hmi := HI.out
        obtain ⟨r, hr⟩ : ∃ r, r = rs.getD k run0 := ⟨_, rfl⟩
        rw [← hr] at a1 a2 htk hmi hown hdk
        obtain ⟨t, q, s⟩ := r
        dsimp only at a1 a2 hown hdk hmi
        have HR := hid hr
        have HI := hid hmi
        clear hr hmi
        have HTK2 := hid htk
        have HDK2 := hid hdk
        have hpos := hB.size
        have HOWN := hid hown
        clear htk hdk a3 hown
        by_cases hti : i < t.length
        · have hix := fun W => run_index_at (P := Try.prog) 9 Try.underlying9 t i hti _ rfl (i : Int) rfl .i64 W
          have hti2 := getD_succ t 0 hti
          generalize t.getD i 0 = x at hix hti2
          have htI : (i : Int) < (t.length : Int) := by omega
          have htl : (t.length : Int) ≤ 1000000 := by have := HDK2.out; omega
          have hcl : (chs (rs.take k) ++ (t.take i).map fun b => (b, q)).length + 1 ≤ 1000000 := by
            have := HDK2.out
            rw [List.length_append, List.length_map, List.length_take]
            omega
          have HTI := hid hti2
          clear hti2
          go_wp2_with fail
          obtain ⟨w2, hw2⟩ : ∃ w2, w2 = wr.drew := ⟨_, rfl⟩
          have hown2 : w2.ownsRow w.heap.size 54 2 u3 (chs (rs.take k) ++ (t.take i).map fun b => (b, q)).length (chv (chs (rs.take k) ++ (t.take i).map fun b => (b, q))) := by
            rw [hw2]; exact HOWN.out.kept (row := none) ⟨rfl, rfl, rfl, Nat.le_refl _, fun _ _ _ => rfl⟩ (by cases h : u3.ownBlock <;> simp)
          have hB2 : Below w.heap.size w w2 := by rw [hw2]; exact hB.drew
          clear HOWN
          obtain ⟨pre, hpre⟩ : ∃ pre, pre = chs (rs.take k) ++ (t.take i).map fun b => (b, q) := ⟨_, rfl⟩
          rw [← hpre] at hown2 hcl
          have HPRE := hid hpre
          have HOWN2 := hid hown2
          rw [hw2] at HOWN2
          clear hpre hown2
          have hwz : w2.heap.size = wr.heap.size := by rw [hw2]; rfl
          go_region_law ((refine step_append_own (by rfl) (.tmp 22) (.tmp 36) 46 (by rfl) w.heap.size 54 i0 (.agg #[.int .u8 0, .bool false]) 2 2 Try.underlying46 hi hz0 hz1 hz2 (by rfl) (by decide) u3 pre.length (chv pre) (by rfl) (by exact HOWN2.out.alloc _) ⟨wr.heap.size, 0, none⟩ 1 1 [.int .u8 (x.toNat : Int), .bool q] (by rfl) (by rfl) (by exact (World.news_of_block (cs := #[.int .u8 (x.toNat : Int), .bool q]) (heap_alloc_new wr.drew _))) (by simp [Value.oneCell']) (by unfold maxLen; omega) (by omega) (by simp; omega) ?_; intro v' w3 hown' hgrow))
          all_goals
            have hB3 : Below w.heap.size w w3 := (hB.alloc hB.size _).drew.grown hgrow (by have := hB.size; simp; omega) (fun j hj => (HOWN2.out.lt j hj).1)
            go_wp2_with fail
            go_roundg (gk - 1)
            case measure => go_light; have := HI.out; omega
            case rel =>
              go_light
              have := HI.out
              have e1 : chs (rs.take k) ++ (t.take (i + 1)).map (fun b => (b, q)) = pre ++ [(x, q)] := by rw [HTI.out, List.map_append, ← List.append_assoc, ← HPRE.out]; rfl
              rw [← HR.out]
              refine ⟨i + 1, by show _ = t.length; omega, int_cast (by omega), ?_, hB3⟩
              rw [e1, chv_append, List.length_append]
              exact hown'
        · have := HI.out
          obtain rfl : i = t.length := by omega
          clear this hti
          go_wp2_with fail
          go_roundg (g0 - 1)
          case measure => go_light; have := HM.out; omega
          case rel =>
            go_light
            have := HM.out
            have hown := HOWN.out
            rw [List.take_length] at hown
            exact ⟨k + 1, by omega, int_cast (by omega), by rw [HTK2.out]; exact hown, hB⟩
    · have := HM.out
      obtain rfl : k = rs.length := by omega
      rw [List.take_length] at hown
      have hf : ∃ B d, u3 = .slice B (chs rs).length d ∧ (chs rs).length ≤ d ∧ d ≤ maxLen := by
        rcases hown.2 with ⟨h1, h2⟩ | ⟨g, cap, cur, h1, _, _, h3, h4, _⟩
        · exact ⟨none, 0, by rw [h1, h2], by omega, by simp [maxLen]⟩
        · exact ⟨_, _, h1, h3, h4⟩
      obtain ⟨B, d, rfl, hd1, hd2⟩ := hf
      have HOWN := hid (Rc.of_own hown)
      have HD1 := hid hd1
      have HD2 := hid hd2
      clear this hlt HM hown hd1 hd2
      go_wp2_with fail
      go_ret
      exact ⟨⟨B, d, rfl, HD1.out, HD2.out, HOWN.out⟩, hB⟩
end Go.Proofs.Ytklihdlfbhgpeaa
