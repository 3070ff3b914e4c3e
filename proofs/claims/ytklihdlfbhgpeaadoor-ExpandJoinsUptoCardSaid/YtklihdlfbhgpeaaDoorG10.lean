/-
  The walks of the program's Magic, of the library's Builder as this program has it, and of Plain; the reference's Plain.
-/
import Derived.Test.YtklihdlfbhgpeaaDoorG8
import Derived.Shelf.Strings.Builder1
import Derived.Lib.AppendStr
namespace Go.Proofs.YtklihdlfbhgpeaaDoor
open Go.RowKit
set_option linter.unusedVariables false

theorem info57 : (Tryd.prog.info? 99).map (·.size) = some 2 := by kernel_rfl
theorem info5 : (Tryd.prog.info? 5).map (fun i => (i.zero, i.size, i.bytes)) = some (some (.int .u8 0), 1, 1) := by kernel_rfl
set_option maxHeartbeats 1000000 in
set_option maxRecDepth 100000 in
theorem copyCheck_used (b : Nat) (w : World) (h0 : w.cell? ⟨b, 0, none⟩ = some (.pointer (some ⟨b, 0, none⟩))) :
    Calls Tryd.prog 56 #[.pointer (some ⟨b, 0, none⟩)] w fun e w' => e = .returned (.tuple #[]) ∧ w' = w := by
  obtain ⟨j, hj, _⟩ := Option.map_eq_some_iff.1 info57
  go_enter Tryd.func56, Tryd.ntmps56
  go_wp2
  rw [Lib.run_neq_ptr_same w _ Tryd.underlying97 hj]
  go_wp2
  go_end0
  exact ⟨rfl, rfl⟩
set_option maxHeartbeats 1000000 in
set_option maxRecDepth 100000 in
theorem copyCheck_fresh (b : Nat) (w : World) (h0 : w.cell? ⟨b, 0, none⟩ = some (.pointer none)) (hsh : w.shape? b = some (99, 2)) (hfz : w.frozen? ⟨b, 0, none⟩ = false) :
    Calls Tryd.prog 56 #[.pointer (some ⟨b, 0, none⟩)] w fun e w' => e = .returned (.tuple #[]) ∧ w' = w.setCell ⟨b, 0, none⟩ (.pointer (some ⟨b, 0, none⟩)) := by
  obtain ⟨j, hj, hjs⟩ := Option.map_eq_some_iff.1 info57
  go_enter Tryd.func56, Tryd.ntmps56
  go_wp2
  rw [Lib.run_to_unsafe w ⟨b, 0, none⟩ Tryd.underlying97 Tryd.underlying130 hj (by rw [hjs]; decide) hsh (Nat.zero_lt_succ 1)]
  simp only [Result.andThen]
  rw [Oper.upon_value]
  go_wp2
  rw [run_callFunc_extern Tryd.func68 (by kernel_rfl) (by kernel_rfl) (by kernel_rfl) (e := Extern.AbiNoEscape.same) (by kernel_rfl)]
  rw [Lib.run_noEscape]
  simp only [Result.andThen]
  rw [Oper.upon_value]
  go_wp2
  rw [Lib.run_from_unsafe w ⟨b, 0, none⟩ Tryd.underlying130 Tryd.underlying97 hj hsh (by kernel_rfl)]
  simp only [Result.andThen]
  rw [Oper.upon_value]
  go_wp2
  go_end0
  exact ⟨rfl, rfl⟩
theorem copyCheck_any (B b : Nat) (bs : List Value) (w : World) (h : Lib.IsBuilder 99 5 B b bs w) :
    Calls Tryd.prog 56 #[.pointer (some ⟨b, 0, none⟩)] w fun e w' => e = .returned (.tuple #[]) ∧ (Lib.BuilderAt 99 5 B b (.pointer (some ⟨b, 0, none⟩)) bs w' ∧ Below B w w') := by
  rcases h with h | h
  · refine (copyCheck_fresh b w h.cell0 h.shape h.frozen0).mono ?_
    rintro e w' ⟨rfl, rfl⟩
    exact ⟨rfl, h.used _, (Below.refl B w).setCell (p := ⟨b, 0, none⟩) h.1 _⟩
  · refine (copyCheck_used b w h.cell0).mono ?_
    rintro e w' ⟨rfl, rfl⟩
    exact ⟨rfl, h, Below.refl B _⟩
theorem strCells_bv (l : List UInt8) : Lib.strCells ⟨l.toArray⟩ = bv l := by simp [Lib.strCells, bv]
theorem byteCells_bv (l : List UInt8) : Lib.byteCells l = bv l := by simp [Lib.byteCells, bv]
set_option maxHeartbeats 1000000 in
set_option maxRecDepth 100000 in
theorem writeString_any (B b : Nat) (bs : List Value) (l : List UInt8) (w : World) (h : Lib.IsBuilder 99 5 B b bs w) (hlen : bs.length + l.length ≤ 140737488355328) (hBw : B ≤ w.heap.size) :
    Calls Tryd.prog 49 #[.pointer (some ⟨b, 0, none⟩), .string ⟨l.toArray⟩] w fun e w' => (∃ n, e = .returned (.tuple #[.int .i64 n, .nilIface])) ∧ (Lib.BuilderAt 99 5 B b (.pointer (some ⟨b, 0, none⟩)) (bs ++ bv l) w' ∧ Below B w w') := by
  obtain ⟨i0, hi, hz0, hz1, hz2⟩ := info_parts info5
  have hsz : (ByteArray.mk l.toArray).size = l.length := by simp [ByteArray.size]
  have HSZ := hid hsz
  clear hsz
  go_enter Tryd.func49, Tryd.ntmps49
  go_wp2_with fail
  refine (copyCheck_any B b bs _ h).mono ?_
  rintro e w1 ⟨rfl, h1, hb1⟩
  obtain ⟨hB, v, hbk, hown, hne⟩ := h1
  have c0 : w1.cell? ⟨b, 0, none⟩ = some (.pointer (some ⟨b, 0, none⟩)) := by rw [Lib.cell_of_heap hbk]; rfl
  have c1 : w1.cell? ⟨b, 1, none⟩ = some v := by rw [Lib.cell_of_heap hbk]; rfl
  go_wp2_with (at_builtin; refine Lib.wpList_append_own_string _ rfl (.tmp 12) (.tmp 13) 42 9 rfl B 5 i0 Tryd.underlying42 Tryd.underlying9 hi hz0 hz1 hz2 _ _ _ rfl hown ⟨l.toArray⟩ rfl (by rw [HSZ.out]; unfold maxLen; omega) (by rw [HSZ.out]; omega) (by have := hb1.size; omega) ?_)
  intro v' w2 hown' hgrow _
  have hlt : b < w1.heap.size := (Array.getElem?_eq_some_iff.1 hbk).1
  have hb2 : w2.heap[b]? = some (.cells #[.pointer (some ⟨b, 0, none⟩), v] 99 (0, 0)) := by
    rw [hgrow.block b hlt (fun e => hne e.symm)]
    exact hbk
  have d0 : w2.cell? ⟨b, 0, none⟩ = some (.pointer (some ⟨b, 0, none⟩)) := by rw [Lib.cell_of_heap hb2]; rfl
  have d1 : w2.cell? ⟨b, 1, none⟩ = some v := by rw [Lib.cell_of_heap hb2]; rfl
  have f1 : w2.frozen? ⟨b, 1, none⟩ = false := Lib.frozen_of_heap hb2 1
  rw [strCells_bv] at hown'
  obtain ⟨A, cap, rfl⟩ : ∃ A cap, v' = .slice A (bs.length + l.length) cap := by
    rcases hown'.2 with ⟨h1, h0⟩ | ⟨g, cap, cur, hv, _⟩
    · exact ⟨none, 0, by rw [h1, h0]⟩
    · exact ⟨_, cap, hv⟩
  go_wp2
  go_ret2
  refine ⟨⟨_, rfl⟩, ?_, ?_⟩
  · exact Lib.BuilderAt.put (T := 99) (e := 5) hB hb2 (bs' := bs ++ bv l) (by simpa [bv_length] using hown') (by decide)
  · exact (hb1.grown hgrow (by have := hb1.size; omega) (fun k hk => (hown.lt k hk).1)).setCell (p := ⟨b, 1, none⟩) hB _

theorem bld_alloc {T e : TypeId} {B b : Nat} {bs : List Value} {w : World} (h : Lib.IsBuilder T e B b bs w) (o : Obj) : Lib.IsBuilder T e B b bs (w.alloc o) := by
  rcases h with ⟨hB, v, hb, hown, hne⟩ | ⟨hB, v, hb, hown, hne⟩
  · exact .inl ⟨hB, v, (Below.heap_alloc w o b (Array.getElem?_eq_some_iff.1 hb).1).trans hb, hown.alloc _, hne⟩
  · exact .inr ⟨hB, v, (Below.heap_alloc w o b (Array.getElem?_eq_some_iff.1 hb).1).trans hb, hown.alloc _, hne⟩

/-! ### Plain -/
def plainL (rs : List RunV) : List UInt8 := rs.flatMap RunV.t
theorem plain_chs : ∀ rs : List RunV, (chs rs).map (·.1) = plainL rs
  | [] => rfl
  | r :: rs => by
    have := plain_chs rs
    simp only [chs, plainL, List.flatMap_cons, List.map_append] at this ⊢
    rw [this]
    simp [chr, Function.comp_def]
theorem plain_succ (rs : List RunV) {k : Nat} (h : k < rs.length) : plainL (rs.take (k + 1)) = plainL (rs.take k) ++ (rs.getD k run0).t := by
  rw [getD_succ rs run0 h]
  simp [plainL]
theorem plain_le (rs : List RunV) (k : Nat) : (plainL (rs.take k)).length ≤ (chs rs).length := by
  have h1 : (plainL rs).length = (chs rs).length := by rw [← plain_chs, List.length_map]
  rw [← h1]
  have e : plainL rs = plainL (rs.take k) ++ plainL (rs.drop k) := by
    rw [plainL, plainL, plainL, ← List.flatMap_append, List.take_append_drop]
  rw [e, List.length_append]
  omega
set_option maxHeartbeats 1000000 in
set_option maxRecDepth 100000 in
theorem plain_any (A : Option Addr) (c : Nat) (rs : List RunV) (w : World) (hp : Pat w A rs) :
    Calls Tryd.prog 43 #[.slice A rs.length c] w fun e w' => e = .returned (.string ⟨(plainL rs).toArray⟩) ∧ Below w.heap.size w w' := by
  have hnI : (rs.length : Int) ≤ 100000000 := by have := hp.n; omega
  have hall := hp.all
  have HP := hid hp
  clear hp
  go_enter Tryd.func43, Tryd.ntmps43
  go_wp2_with fail
  go_loopg [8] rs.length (fun m v8 wr => ∃ k : Nat, m + k = rs.length ∧ v8 = .int .i64 k ∧ Lib.IsBuilder 99 5 w.heap.size w.heap.size (bv (plainL (rs.take k))) wr ∧ Below w.heap.size w wr)
  case atStart => exact ⟨0, rfl, rfl, .inl ⟨Nat.le_refl _, _, heap_alloc_new w _, World.ownsRow_nil _ _ _ _, by simp [Value.ownBlock]⟩, (Below.refl _ _).alloc (Nat.le_refl _) _⟩
  case round =>
    obtain ⟨k, hm, rfl, hbl, hB⟩ := hrel
    have HM := hid hm
    clear hm
    by_cases hlt : k < rs.length
    · obtain ⟨b, off, hA, hb, a1, a2, a3⟩ := Rns.at_ (Rc.below HP.out.rows hB) hlt
      subst hA
      have hps := plain_succ rs hlt
      have hple := plain_le rs (k + 1)
      rw [hps] at hple
      obtain ⟨r, hr⟩ : ∃ r, r = rs.getD k run0 := ⟨_, rfl⟩
      rw [← hr] at a1 a2 a3 hps hple
      clear hr
      obtain ⟨t, q, s⟩ := r
      dsimp only at a1 a2 a3 hps hple
      rw [List.length_append] at hple
      have HPS := hid hps
      have hkI : (k : Int) < (rs.length : Int) := by omega
      have hbs := hB.size
      have hB1 : Below w.heap.size w (wr.alloc (.cells #[.string ⟨t.toArray⟩, .bool q, .bool s] 40)) := hB.alloc hbs _
      have hbl1 : Lib.IsBuilder 99 5 w.heap.size w.heap.size (bv (plainL (rs.take k))) (wr.alloc (.cells #[.string ⟨t.toArray⟩, .bool q, .bool s] 40)) := bld_alloc hbl _
      have HW := hid (writeString_any w.heap.size w.heap.size _ t _ hbl1 (by rw [bv_length]; omega) (by simp; omega))
      clear hps hbl hbl1 hple
      go_wp2_with fail
      refine HW.out.mono ?_
      rintro e w2 ⟨⟨n, rfl⟩, hbl2, hB2⟩
      have hB3 := hB1.trans hB2
      clear HW
      go_wp2_with fail
      go_roundg (gk - 1)
      case measure => go_light; have := HM.out; omega
      case rel =>
        go_light
        have := HM.out
        exact ⟨k + 1, by omega, int_cast (by omega), .inr (by rw [HPS.out, bv_append]; exact hbl2), hB3⟩
    · have := HM.out
      obtain rfl : k = rs.length := by omega
      rw [List.take_length] at hbl
      rw [← byteCells_bv] at hbl
      clear this hlt HM
      go_wp2_with fail
      refine (Tryd.Builder_String_any _ _ _ _ hbl hB.size).mono ?_
      rintro e w2 ⟨rfl, hB2⟩
      have hB3 := hB.trans hB2
      clear hbl
      go_wp2_with fail
      go_ret
      exact ⟨rfl, hB3⟩

end Go.Proofs.YtklihdlfbhgpeaaDoor
