/-
  The walk of trim's closure: one way to cut.
-/
import Derived.Test.YtklihdlfbhgpeaaDoorE14
import Derived.Test.YtklihdlfbhgpeaaDoorInv
namespace Go.Proofs.YtklihdlfbhgpeaaDoor
open Go.RowKit
set_option linter.unusedVariables false

theorem hashOp_cons (a : UInt8) (r : Str) : hashOp (a :: r) = decide ((a.toNat : Int) = 35) := by
  have e : (a = 35) = (a.toNat = 35) := propext ⟨fun h => by rw [h]; rfl, fun h => UInt8.toNat_inj.1 h⟩
  unfold hashOp
  rw [Bool.eq_iff_iff]
  simp [e]
  omega
theorem cell_below {w w' : World} {p : Addr} {v : Value} (hc : w.cell? p = some v) (hB : Below w.heap.size w w') : w'.cell? p = some v := by
  have hlt : p.block < w.heap.size := by
    cases h : w.heap[p.block]? with
    | none => simp [World.cell?, h] at hc
    | some o => exact (Array.getElem?_eq_some_iff.1 h).1
  rw [hB.cell hlt, hc]
set_option maxRecDepth 100000 in
set_option maxHeartbeats 4000000 in
theorem cut_any (a : UInt8) (r s : Str) (rs : List RunV) (A : Option Addr) (c k xb sb pb nb : Nat) (w : World) (hx : w.cell? ⟨xb, 2, none⟩ = some (.string ⟨(a :: r).toArray⟩)) (hs : w.cell? ⟨sb, 0, none⟩ = some (.string ⟨s.toArray⟩))
    (hpb : w.cell? ⟨pb, 0, none⟩ = some (.slice A rs.length c)) (hn : w.cell? ⟨nb, 0, none⟩ = some (.int .i64 s.length)) (hp : Pat w A rs) (hk : k ≤ s.length) (hl : s.length ≤ 740) :
    Calls Tryd.prog 45 #[.int .i64 k, .pointer (some ⟨xb, 0, none⟩), .pointer (some ⟨sb, 0, none⟩), .pointer (some ⟨pb, 0, none⟩), .pointer (some ⟨nb, 0, none⟩)] w fun e w' =>
      e = .returned (.tuple #[.string ⟨(leftV (a :: r) s k).toArray⟩, .bool (cutV (a :: r) rs s k)]) ∧ Below w.heap.size w w' := by
  have hix := fun W => run_index_at (P := Tryd.prog) 9 Tryd.underlying9 (a :: r) 0 (by simp) a rfl (0 : Int) rfl .i64 W
  have hkI : (k : Int) ≤ (s.length : Int) := by omega
  have hsI : (s.length : Int) ≤ 740 := by omega
  have HP := hid hp
  clear hp
  unfold leftV cutV
  rw [hashOp_cons]
  by_cases h35 : (a.toNat : Int) = 35
  · rw [decide_eq_true h35, if_pos rfl, if_pos rfl]
    have hb35 : ((a.toNat : Int) == 35) = true := by simpa using h35
    go_enter Tryd.func45, Tryd.ntmps45
    go_wp2_with fail
    have HPX := hid (And.intro hx (And.intro hs (And.intro hpb (And.intro hn HP.out))))
    clear hx hs hpb hn
    refine wp_region_any (by kernel_rfl) ?_
    refine wpAny_vals (by kernel_rfl) (fun w' => Below w.heap.size w w') (fun
      | 0 => .string ⟨s.toArray⟩ | 1 => .int .i64 k | 2 => .string ⟨(s.drop k).toArray⟩ | 3 => .slice A rs.length c | 4 => .string ⟨s.toArray⟩ | 5 => .int .i64 k | 6 => .string ⟨(s.take k).toArray⟩ | 7 => .bool (matchP (pieces (chs rs)) (s.take k)) | 8 => .string ⟨(s.drop k).toArray⟩ | 9 => .bool (matchP (pieces (chs rs)) (s.take k)) | _ => undef)
      (fun V => { tmps := #[.int .i64 k, .pointer (some ⟨xb, 0, none⟩), .pointer (some ⟨sb, 0, none⟩), .pointer (some ⟨pb, 0, none⟩), .pointer (some ⟨nb, 0, none⟩), undef, V 8, V 9, .pointer (some ⟨xb, 0, none⟩), .pointer (some ⟨xb, 2, none⟩), .string ⟨(a :: r).toArray⟩, .int .u8 35, .bool true, V 0, V 1, V 2, V 3, V 4, V 5, V 6, V 7, undef, undef, undef, undef, undef, undef, undef, undef, undef, undef, undef, undef], defers := [] })
      (fun | 8 => .string ⟨#[]⟩ | 9 => .bool false | _ => undef) ?_ ?_ ⟨rfl, rfl, rfl, Nat.le_refl _, fun _ _ => rfl⟩
    · intro V w2 i K hi hdep hB hK
      have hcs : w2.cell? ⟨sb, 0, none⟩ = some (.string ⟨s.toArray⟩) := cell_below HPX.out.2.1 hB
      have hcp : w2.cell? ⟨pb, 0, none⟩ = some (.slice A rs.length c) := cell_below HPX.out.2.2.1 hB
      have hcn : w2.cell? ⟨nb, 0, none⟩ = some (.int .i64 s.length) := cell_below HPX.out.2.2.2.1 hB
      have hi' : i = 0 ∨ i = 1 ∨ i = 2 ∨ i = 3 ∨ i = 4 ∨ i = 5 ∨ i = 6 ∨ i = 7 ∨ i = 8 ∨ i = 9 := by
        have : i < 10 := hi
        omega
      have HB := hid hB
      clear hB hi
      rcases hi' with rfl | rfl | rfl | rfl | rfl | rfl | rfl | rfl | rfl | rfl
      · refine wpOp_go rfl ?_
        go_simp
        exact hK _ HB.out
      · refine wpOp_go rfl ?_
        go_simp
        exact hK _ HB.out
      · have hd := hdep _ rfl
        simp [Region.binds] at hd
        have HK := hid hK
        clear hK hdep
        refine wpOp_go rfl ?_
        go_simp
        refine cast (congrArg (fun x => K x w2) ?_) (HK.out w2 HB.out)
        simp [hd]
      · refine wpOp_go rfl ?_
        go_simp
        exact hK _ HB.out
      · refine wpOp_go rfl ?_
        go_simp
        exact hK _ HB.out
      · refine wpOp_go rfl ?_
        go_simp
        exact hK _ HB.out
      · have hd := hdep _ rfl
        simp [Region.binds] at hd
        have HK := hid hK
        clear hK hdep
        refine wpOp_go rfl ?_
        go_simp
        refine cast (congrArg (fun x => K x w2) ?_) (HK.out w2 HB.out)
        simp [hd]
      · have hd := hdep _ rfl
        simp [Region.binds] at hd
        have HK := hid hK
        have HD := hid hd
        clear hK hdep
        refine wpOp_go rfl ?_
        go_wp2_with (go_at_call 46; refine (match_any' A c rs (s.take k) (by simp; omega) w2 (HPX.out.2.2.2.2.below HB.out)).mono ?_; rintro e w3 ⟨rfl, hB3⟩)
        refine cast (congrArg (fun x => K x w3) ?_) (HK.out w3 (HB.out.trans (hB3.mono HB.out.size)))
        simp [HD.out]
      · have hd := hdep _ rfl
        simp [Region.binds] at hd
        have HK := hid hK
        clear hK hdep
        refine wpOp_go rfl ?_
        go_simp
        refine cast (congrArg (fun x => K x w2) ?_) (HK.out w2 HB.out)
        simp [hd]
      · have hd := hdep _ rfl
        simp [Region.binds] at hd
        have HK := hid hK
        clear hK hdep
        refine wpOp_go rfl ?_
        go_simp
        refine cast (congrArg (fun x => K x w2) ?_) (HK.out w2 HB.out)
        simp [hd]
    · intro V w2 hV hB
      have HB := hid hB
      clear hB
      dsimp only
      rw [hV 8 (by decide), hV 9 (by decide)]
      go_wp2_with fail
      go_ret2
      exact ⟨rfl, HB.out⟩
  · rw [decide_eq_false h35, if_neg (by simp), if_neg (by simp)]
    have hb35 : ((a.toNat : Int) == 35) = false := by simpa using h35
    go_enter Tryd.func45, Tryd.ntmps45
    go_wp2_with fail
    have hwr : IntKind.i64.wrap ((s.length : Int) - k) = ((s.length - k : Nat) : Int) := by rw [IntWalk.i64_in _ (by omega)]; omega
    have hle : ((s.length - k : Nat) : Int) ≤ (s.length : Int) := by omega
    have HPX := hid (And.intro hx (And.intro hs (And.intro hpb (And.intro hn HP.out))))
    clear hx hs hpb hn
    refine wp_region_any (by kernel_rfl) ?_
    refine wpAny_vals (by kernel_rfl) (fun w' => Below w.heap.size w w') (fun
      | 0 => .string ⟨s.toArray⟩ | 1 => .int .i64 s.length | 2 => .int .i64 k | 3 => .int .i64 ((s.length - k : Nat) : Int) | 4 => .string ⟨(s.take (s.length - k)).toArray⟩ | 5 => .slice A rs.length c | 6 => .string ⟨s.toArray⟩ | 7 => .int .i64 s.length | 8 => .int .i64 k | 9 => .int .i64 ((s.length - k : Nat) : Int) | 10 => .string ⟨(s.drop (s.length - k)).toArray⟩ | 11 => .bool (matchP (pieces (chs rs)) (s.drop (s.length - k))) | 12 => .string ⟨(s.take (s.length - k)).toArray⟩ | 13 => .bool (matchP (pieces (chs rs)) (s.drop (s.length - k))) | _ => undef)
      (fun V => { tmps := #[.int .i64 k, .pointer (some ⟨xb, 0, none⟩), .pointer (some ⟨sb, 0, none⟩), .pointer (some ⟨pb, 0, none⟩), .pointer (some ⟨nb, 0, none⟩), undef, V 12, V 13, .pointer (some ⟨xb, 0, none⟩), .pointer (some ⟨xb, 2, none⟩), .string ⟨(a :: r).toArray⟩, .int .u8 a.toNat, .bool false, undef, undef, undef, undef, undef, undef, undef, undef, V 0, V 1, V 2, V 3, V 4, V 5, V 6, V 7, V 8, V 9, V 10, V 11], defers := [] })
      (fun | 12 => .string ⟨#[]⟩ | 13 => .bool false | _ => undef) ?_ ?_ ⟨rfl, rfl, rfl, Nat.le_refl _, fun _ _ => rfl⟩
    · intro V w2 i K hi hdep hB hK
      have hcs : w2.cell? ⟨sb, 0, none⟩ = some (.string ⟨s.toArray⟩) := cell_below HPX.out.2.1 hB
      have hcp : w2.cell? ⟨pb, 0, none⟩ = some (.slice A rs.length c) := cell_below HPX.out.2.2.1 hB
      have hcn : w2.cell? ⟨nb, 0, none⟩ = some (.int .i64 s.length) := cell_below HPX.out.2.2.2.1 hB
      have hi' : i = 0 ∨ i = 1 ∨ i = 2 ∨ i = 3 ∨ i = 4 ∨ i = 5 ∨ i = 6 ∨ i = 7 ∨ i = 8 ∨ i = 9 ∨ i = 10 ∨ i = 11 ∨ i = 12 ∨ i = 13 := by
        have : i < 14 := hi
        omega
      have HB := hid hB
      clear hB hi
      rcases hi' with rfl | rfl | rfl | rfl | rfl | rfl | rfl | rfl | rfl | rfl | rfl | rfl | rfl | rfl
      · refine wpOp_go rfl ?_
        go_simp
        exact hK _ HB.out
      · refine wpOp_go rfl ?_
        go_simp
        exact hK _ HB.out
      · refine wpOp_go rfl ?_
        go_simp
        exact hK _ HB.out
      · have hd := hdep _ rfl
        simp [Region.binds] at hd
        have HK := hid hK
        clear hK hdep
        refine wpOp_go rfl ?_
        go_simp
        refine cast (congrArg (fun x => K x w2) ?_) (HK.out w2 HB.out)
        simp [hd]
      · have hd := hdep _ rfl
        simp [Region.binds] at hd
        have HK := hid hK
        clear hK hdep
        refine wpOp_go rfl ?_
        go_simp
        refine cast (congrArg (fun x => K x w2) ?_) (HK.out w2 HB.out)
        simp [hd]
      · refine wpOp_go rfl ?_
        go_simp
        exact hK _ HB.out
      · refine wpOp_go rfl ?_
        go_simp
        exact hK _ HB.out
      · refine wpOp_go rfl ?_
        go_simp
        exact hK _ HB.out
      · refine wpOp_go rfl ?_
        go_simp
        exact hK _ HB.out
      · have hd := hdep _ rfl
        simp [Region.binds] at hd
        have HK := hid hK
        clear hK hdep
        refine wpOp_go rfl ?_
        go_simp
        refine cast (congrArg (fun x => K x w2) ?_) (HK.out w2 HB.out)
        simp [hd]
      · have hd := hdep _ rfl
        simp [Region.binds] at hd
        have HK := hid hK
        clear hK hdep
        refine wpOp_go rfl ?_
        go_simp
        refine cast (congrArg (fun x => K x w2) ?_) (HK.out w2 HB.out)
        simp [hd]
      · have hd := hdep _ rfl
        simp [Region.binds] at hd
        have HK := hid hK
        have HD := hid hd
        clear hK hdep
        refine wpOp_go rfl ?_
        go_wp2_with (go_at_call 46; refine (match_any' A c rs (s.drop (s.length - k)) (by simp; omega) w2 (HPX.out.2.2.2.2.below HB.out)).mono ?_; rintro e w3 ⟨rfl, hB3⟩)
        refine cast (congrArg (fun x => K x w3) ?_) (HK.out w3 (HB.out.trans (hB3.mono HB.out.size)))
        simp [HD.out]
      · have hd := hdep _ rfl
        simp [Region.binds] at hd
        have HK := hid hK
        clear hK hdep
        refine wpOp_go rfl ?_
        go_simp
        refine cast (congrArg (fun x => K x w2) ?_) (HK.out w2 HB.out)
        simp [hd]
      · have hd := hdep _ rfl
        simp [Region.binds] at hd
        have HK := hid hK
        clear hK hdep
        refine wpOp_go rfl ?_
        go_simp
        refine cast (congrArg (fun x => K x w2) ?_) (HK.out w2 HB.out)
        simp [hd]
    · intro V w2 hV hB
      have HB := hid hB
      clear hB
      dsimp only
      rw [hV 12 (by decide), hV 13 (by decide)]
      go_wp2_with fail
      go_ret2
      exact ⟨rfl, HB.out⟩
end Go.Proofs.YtklihdlfbhgpeaaDoor
