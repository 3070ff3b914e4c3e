/-
  The walk of the iterator over a pattern's characters.
-/
import Derived.Test.YtklihdlfbhgpeaaDoorG3
import Derived.Test.YtklihdlfbhgpeaaDoorRange
import Derived.Test.YtklihdlfbhgpeaaDoorTailIn
import Derived.RangeFuncBox
import Derived.Shelf.RegionOpen
import Derived.LoopNIn
import Derived.LoopIn
namespace Go.Proofs.YtklihdlfbhgpeaaDoor
open Go.RowKit Go.Shelf
set_option linter.unusedVariables false
attribute [local go_sem] Oper.semAt_some

/-- A run: its text, whether it is quoted, whether it is split. -/
structure RunV where
  t : List UInt8
  q : Bool
  s : Bool
/-- The cells of a row of runs. -/
def rnv (l : List RunV) : List Value := l.flatMap fun r => [Value.string ⟨r.t.toArray⟩, .bool r.q, .bool r.s]
theorem rnv_cons (r : RunV) (l : List RunV) : rnv (r :: l) = Value.string ⟨r.t.toArray⟩ :: .bool r.q :: .bool r.s :: rnv l := rfl
theorem rnv_append (l k : List RunV) : rnv (l ++ k) = rnv l ++ rnv k := by simp [rnv]
theorem rnv_length : ∀ l : List RunV, (rnv l).length = l.length * 3
  | [] => rfl
  | c :: l => by rw [rnv_cons]; simp only [List.length_cons, rnv_length l]; omega
/-- One run, the empty one if there is none. -/
def run0 : RunV := ⟨[], false, false⟩
theorem rnv_get : ∀ (l : List RunV) (i : Nat), i < l.length → (rnv l)[i * 3]? = some (.string ⟨(l.getD i run0).t.toArray⟩) ∧ (rnv l)[i * 3 + 1]? = some (.bool (l.getD i run0).q) ∧ (rnv l)[i * 3 + 2]? = some (.bool (l.getD i run0).s)
  | [], i, h => by simp at h
  | c :: l, 0, _ => ⟨rfl, rfl, rfl⟩
  | c :: l, i + 1, h => by
    have := rnv_get l i (by simpa using h)
    rw [rnv_cons, show (i + 1) * 3 = i * 3 + 1 + 1 + 1 by omega]
    simpa using this
theorem rnv_one (l : List RunV) : ∀ v ∈ rnv l, v.oneCell' = true := by
  intro v hv
  obtain ⟨c, _, hc⟩ := List.mem_flatMap.1 hv
  simp at hc
  rcases hc with rfl | rfl | rfl <;> rfl
/-- A slice of runs. -/
abbrev Rns (w : World) (A : Option Addr) (l : List RunV) : Prop := Rc w 3 A l.length (rnv l)
theorem Rns.at_ {w : World} {A : Option Addr} {l : List RunV} (h : Rns w A l) {i : Nat} (hi : i < l.length) : ∃ b off, A = some ⟨b, off, none⟩ ∧ b < w.heap.size ∧
    w.cell? ⟨b, off + i * 3, none⟩ = some (.string ⟨(l.getD i run0).t.toArray⟩) ∧ w.cell? ⟨b, off + i * 3 + 1, none⟩ = some (.bool (l.getD i run0).q) ∧ w.cell? ⟨b, off + i * 3 + 2, none⟩ = some (.bool (l.getD i run0).s) := by
  obtain ⟨b, off, e, hb, hc⟩ := h.2 (by omega)
  obtain ⟨h1, h2, h3⟩ := rnv_get l i hi
  exact ⟨b, off, e, hb, hc _ _ h1, by have := hc _ _ h2; rwa [← Nat.add_assoc] at this, by have := hc _ _ h3; rwa [← Nat.add_assoc] at this⟩

/-- A run's characters; those of all runs. -/
def chr (r : RunV) : List Ch := r.t.map fun b => (b, r.q)
def chs (l : List RunV) : List Ch := l.flatMap chr
theorem chs_append (l k : List RunV) : chs (l ++ k) = chs l ++ chs k := by simp [chs]
theorem getD_succ {α : Type} (l : List α) (d : α) {k : Nat} (h : k < l.length) : l.take (k + 1) = l.take k ++ [l.getD k d] := by
  rw [List.take_succ_eq_append_getElem h]
  simp [List.getD, List.getElem?_eq_getElem h]

theorem chs_split (l : List RunV) {k : Nat} (h : k < l.length) : chs l = chs (l.take k) ++ (chr (l.getD k run0) ++ chs (l.drop (k + 1))) := by
  have e := List.take_append_drop (k + 1) l
  rw [getD_succ l run0 h] at e
  conv => lhs; rw [← e]
  rw [chs_append, chs_append, List.append_assoc]
  congr 1
  simp [chs]
theorem chs_succ (l : List RunV) {k : Nat} (h : k < l.length) : chs (l.take (k + 1)) = chs (l.take k) ++ chr (l.getD k run0) := by
  rw [getD_succ l run0 h, chs_append]
  simp [chs]

def encC (c : Ch) : Array Value := #[.agg #[.int .u8 (c.1.toNat : Int), .bool c.2]]
/-- A round leaves all blocks as they are but those of characters, and of slices of such. -/
def KeepT (W W' : World) : Prop := ∀ (k : Nat) cs t fz, t ≠ 121 → t ≠ 116 → W.heap[k]? = some (.cells cs t fz) → W'.heap[k]? = some (.cells cs t fz)
def KpC (n₀ : Nat) (W W' : World) : Prop := Below n₀ W W' ∧ KeepT W W'
theorem KpC.at_ {n₀ : Nat} {W W' : World} (h : KpC n₀ W W') {g : Nat} {t : TypeId} {cs : Array Value} (ha : At W g t cs) (h1 : t ≠ 121) (h2 : t ≠ 116) : At W' g t cs := h.2 g cs t (0, 0) h1 h2 ha

set_option maxRecDepth 100000 in
set_option maxHeartbeats 1000000 in
theorem chars_stops (F : Fence) (n : Nat) (h52 : F.fn 71) (hro : F.round = none) (hn : 1 ≤ n) (A : Option Addr) (c : Nat) (rs : List RunV) (hl : rs.length ≤ 1000000000) (hls : ∀ r ∈ rs, r.t.length ≤ 1000000000)
    (n₀ : Nat) (w0 w : World) (h0 : n₀ = w0.heap.size) (hw0 : Below n₀ w0 w) (hr : Rns w0 A rs) (sb : Nat) (hsb : At w sb 38 #[.slice A rs.length c]) :
    SeqStopsK F n Tryd.prog 71 #[.pointer (some ⟨sb, 0, none⟩)] encC (KpC n₀) (fun xs => xs = chs rs) (fun _ => True) (chs rs).length w := by
  intro lr J Jx W hW hJ hJx hY hJ0
  have hlI : (rs.length : Int) ≤ 1000000000 := by omega
  have hs : W.cell? ⟨sb, 0, none⟩ = some (.slice A rs.length c) := (hsb.below hW hsb.lt).cell 0
  have hB0 : Below n₀ w0 W := hw0.trans (hW.mono (by have := hw0.size; omega))
  have HY := hid hY
  have HJ := hid hJ
  have HR := hid hr
  have HLS := hid hls
  subst h0
  clear hY hJ hr hls hsb
  refine callsIn_of_wp Tryd.func71 rfl h52 ?_ hro
  simp only [Tryd.ntmps71, List.size_toArray, List.length_cons, List.length_nil, Nat.reduceAdd, Nat.reduceSub, Array.replicate_succ, Array.replicate_zero, List.push_toArray, List.append_toArray, List.nil_append, List.cons_append]
  gi_wp2
  gi_loopg [8] rs.length (fun m v8 wr => ∃ k : Nat, m + k = rs.length ∧ v8 = .int .i64 k ∧ J (chs (rs.take k)) wr ∧ Below w0.heap.size w0 wr)
  case atStart => exact ⟨0, rfl, rfl, hJ0, hB0⟩
  case round =>
    clear hJ0 hB0 hs
    obtain ⟨k, hm, rfl, hJk, hB⟩ := hrel
    obtain ⟨g0, rfl⟩ : ∃ g0 : Nat, g0 = gk := ⟨_, rfl⟩
    have HM := hid hm
    clear hm
    by_cases hlt : k < rs.length
    · obtain ⟨b, off, hA, hb, a1, a2, a3⟩ := Rns.at_ (Rc.below HR.out hB) hlt
      subst hA
      have hmem : rs.getD k run0 ∈ rs := by rw [List.getD, List.getElem?_eq_getElem hlt]; exact List.getElem_mem hlt
      have hls := HLS.out _ hmem
      have htk := chs_succ rs hlt
      have hdk := congrArg List.length (chs_split rs hlt)
      rw [List.length_append, List.length_append, chr, List.length_map] at hdk
      generalize rs.getD k run0 = r at a1 a2 a3 hls htk hdk
      obtain ⟨t, q, s⟩ := r
      have i1 : (k : Int) < (rs.length : Int) := by omega
      have htI : (t.length : Int) ≤ 1000000000 := by have : t.length ≤ 1000000000 := hls; omega
      have HTK := hid htk
      have HDK := hid hdk
      dsimp only at a1 a2 a3
      clear htk hdk hmem hls
      gi_wp2
      have hx : At (wr.alloc (.cells #[.string ⟨t.toArray⟩, .bool q, .bool s] 40)) wr.heap.size 40 #[.string ⟨t.toArray⟩, .bool q, .bool s] := At.new _ _ _
      have hBx : Below w0.heap.size w0 (wr.alloc (.cells #[.string ⟨t.toArray⟩, .bool q, .bool s] 40)) := hB.alloc (by have := hB.size; omega) _
      have hJx0 : J (chs (rs.take k)) (wr.alloc (.cells #[.string ⟨t.toArray⟩, .bool q, .bool s] 40)) := HJ.out _ _ _ none hJk (World.grownBy_alloc wr _ none) (fun r e => by cases e)
      obtain ⟨bx, hbx⟩ : ∃ bx, bx = wr.heap.size := ⟨_, rfl⟩
      rw [← hbx] at hx ⊢
      generalize wr.alloc (.cells #[.string ⟨t.toArray⟩, .bool q, .bool s] 40) = wx at hx hBx hJx0 ⊢
      clear hbx hB hJk a1 a2 a3
      gi_loopg [15] t.length (fun m v15 wi => ∃ i : Nat, m + i = t.length ∧ v15 = .int .i64 i ∧ J (chs (rs.take k) ++ (t.take i).map fun b => (b, q)) wi ∧ Below w0.heap.size w0 wi ∧ At wi bx 40 #[.string ⟨t.toArray⟩, .bool q, .bool s])
      case atStart => exact ⟨0, rfl, rfl, by simpa using hJx0, hBx, hx⟩
      case round =>
        clear hJx0 hBx hx
        obtain ⟨i, hm, rfl, hJi, hB, hx⟩ := hrel
        have HI := hid hm
        clear hm
        by_cases hti : i < t.length
        · have hix := fun W => run_index_at (P := Tryd.prog) 9 Tryd.underlying9 t i hti _ rfl (i : Int) rfl .i64 W
          have hti2 := getD_succ t 0 hti
          generalize t.getD i 0 = x at hix hti2
          have hlen : (chs (rs.take k) ++ (t.take i).map fun b => (b, q)).length < (chs rs).length := by
            have : (chs rs).length = (chs (rs.take k)).length + (t.length + _) := HDK.out
            rw [List.length_append, List.length_map, List.length_take]
            omega
          have HTI := hid hti2
          have ii : (i : Int) < (t.length : Int) := by omega
          have x0 := hx.cell 0
          have x1 := hx.cell 1
          have HX := hid hx
          have HLEN := hid hlen
          clear hti2 hlen hx
          simp only [List.getElem?_toArray, List.getElem?_cons_zero, List.getElem?_cons_succ] at x0 x1
          gi_wp2
          refine wpIn_region_quiet_tail 8 hro (by kernel_rfl) (by kernel_rfl) ?_
          simp only [List.take_succ_cons, List.take_zero, List.drop_succ_cons, List.drop_zero]
          repeat (gi_big_quiet_step (fail))
          refine wpQuietIn_nil ?_
          intro w2 hw'
          obtain ⟨nr, hw2⟩ := hw'
          have hJd : J (chs (rs.take k) ++ (t.take i).map fun b => (b, q)) w2 := HJ.out _ _ _ none hJi (by rw [hw2]; exact ⟨rfl, rfl, rfl, Nat.le_refl _, fun _ _ _ => rfl⟩) (fun r e => by cases e)
          have hx2 : At w2 bx 40 #[.string ⟨t.toArray⟩, .bool q, .bool s] := by rw [hw2]; exact HX.out.drewN nr
          have hB2 : Below w0.heap.size w0 w2 := by rw [hw2]; exact Below.drewN' hB nr
          clear hw2 hJi hB x0 x1 hix HX
          obtain ⟨fn, tmps, assign, body, hy, hR⟩ := HY.out _ (x, q) w2 hJd HLEN.out
          dsimp only [encC] at hy
          have HR2 := hid (RoundIn.mono hR (R' := fun e W' => ∃ ok, e = .returned (.bool ok) ∧ Hid ((ok = true → J (chs (rs.take k) ++ (t.take i).map (fun b => (b, q)) ++ [(x, q)]) W' ∧ KpC w0.heap.size w2 W') ∧
            (ok = false → Jx (chs (rs.take k) ++ (t.take i).map (fun b => (b, q)) ++ [(x, q)]) W'))) (by
              rintro e W' (⟨he, h⟩ | ⟨he, h⟩)
              · exact ⟨true, he, hid ⟨fun _ => h, fun h => by cases h⟩⟩
              · exact ⟨false, he, hid ⟨fun h => (by cases h), fun _ => h⟩⟩))
          clear hR
          gi_wp2
          refine (RoundIn.mono HR2.out ?_)
          rintro e W3 ⟨ok, rfl, hok⟩
          clear hy
          cases ok with
          | true =>
            have hJ3 := (hok.out.1 rfl).1
            have hk3 := (hok.out.1 rfl).2
            rw [List.append_assoc] at hJ3
            have hB3 := hB2.trans hk3.1
            have hx3 := hk3.at_ hx2 (by decide) (by decide)
            clear hok hJd hx2 hB2 hk3
            gi_wp2
            gi_roundg (gk - 1)
            case measure => go_light; have := HI.out; omega
            case rel =>
              go_light
              have := HI.out
              refine ⟨i + 1, by omega, int_cast (by omega), ?_, hB3, hx3⟩
              rw [HTI.out, List.map_append]
              exact hJ3
          | false =>
            have hJ3 := hok.out.2 rfl
            clear hok hJd hx2 hB2
            gi_wp2
            refine bodyPost_ret (results_none rfl _ _ _) rfl ?_
            exact ⟨⟨_, rfl⟩, .inr ⟨_, trivial, hJ3⟩⟩
        · have := HI.out
          obtain rfl : i = t.length := by omega
          rw [List.take_length] at hJi
          have hJn : J (chs (rs.take (k + 1))) wr := by rw [HTK.out]; exact hJi
          clear this hti HI hJi hx
          gi_wp2
          gi_roundg (g0 - 1)
          case measure => go_light; have := HM.out; omega
          case rel =>
            go_light
            have := HM.out
            exact ⟨k + 1, by omega, int_cast (by omega), hJn, hB⟩
    · have := HM.out
      obtain rfl : k = rs.length := by omega
      rw [List.take_length] at hJk
      clear this hlt HM
      gi_wp2
      go_end0
      exact ⟨⟨_, rfl⟩, .inl ⟨_, rfl, hJk⟩⟩
end Go.Proofs.YtklihdlfbhgpeaaDoor
