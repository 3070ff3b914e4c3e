/-
  Words laid in memory; the walk of works.
-/
import Derived.Test.YtklihdlfbhgpeaaDoorE20
namespace Go.Proofs.YtklihdlfbhgpeaaDoor
open Go.RowKit
set_option linter.unusedVariables false

/-- A part, where its word and its body lie. -/
structure PartL where
  p : PartV
  A : Option Addr
  c : Nat
  B : Option Addr
def PartL.cells (x : PartL) : List Value := pcs x.p x.A x.c x.B
theorem flat6_get : ∀ (l : List PartL) (i j : Nat) (x : PartL) (u : Value), l[i]? = some x → x.cells[j]? = some u → (l.flatMap PartL.cells)[i * 6 + j]? = some u
  | [], _, _, _, _, h, _ => by simp at h
  | y :: l, 0, j, x, u, h, hu => by
    obtain rfl : y = x := by simpa using h
    have hj : j < y.cells.length := (List.getElem?_eq_some_iff.1 hu).1
    rw [List.flatMap_cons, Nat.zero_mul, Nat.zero_add, List.getElem?_append_left hj]
    exact hu
  | y :: l, i + 1, j, x, u, h, hu => by
    have hl : y.cells.length = 6 := rfl
    rw [List.flatMap_cons, List.getElem?_append_right (by rw [hl]; omega), hl, show (i + 1) * 6 + j - 6 = i * 6 + j by omega]
    exact flat6_get l i j x u (by simpa using h) hu
theorem PAt.mk [Inhabited LowT] {n : Nat} {w : World} {b : Nat} {cs : Array Value} (l : List PartL) (h : At w b 47 cs) (hc : cs.toList = l.flatMap PartL.cells) (hs : ∀ x ∈ l, PAt n w x.A x.p.word ∧ BodyAt w x.B x.p.body) : PAt (n + 1) w (some ⟨b, 0, none⟩) (l.map PartL.p) := by
  intro h0
  refine ⟨b, 0, cs, (0, 0), rfl, h, fun i hi p hp => ?_⟩
  rw [List.getElem?_map, Option.map_eq_some_iff] at hp
  obtain ⟨x, hx, rfl⟩ := hp
  obtain ⟨h1, h2⟩ := hs x (List.mem_of_getElem? hx)
  refine ⟨x.A, x.c, x.B, fun j u hj => ?_, h1, h2⟩
  rw [Nat.zero_add, ← Array.getElem?_toList, hc]
  exact flat6_get l i j x u hx hj
theorem PAt.nil [Inhabited LowT] (n : Nat) (w : World) (A : Option Addr) : PAt n w A [] := by
  cases n with
  | zero => trivial
  | succ n => exact fun h => absurd h (by simp)
def litV (s : Str) : PartV := .mk 0 s [] false [] none
def quoV (s : Str) : PartV := .mk 1 s [] true [] none
def parV (t o : Str) (q : Bool) (ws : List PartV) : PartV := .mk 2 t o q ws none
def wk1 : List PartV := [litV [112], parV [120] [] false [], parV [120] [] true []]
def wk2 : List PartV := [parV [64] [] true []]
theorem wk1_said : saidO (evalW 20 wk1 varsV) = [91, 112, 40, 97, 32, 98, 41, 39, 97, 32, 98, 39, 93] := by kernel_rfl
theorem wk2_said : saidO (evalW 20 wk2 varsV) = [91, 39, 49, 39, 93, 91, 39, 50, 32, 51, 39, 93] := by kernel_rfl
theorem varsV_ok : EnvOk varsV := ⟨by decide, by decide, by decide, by decide, by decide⟩
theorem wb_small {ps : List PartV} {σ : EnvV} (h : EnvOk σ) (hc : costW 20 ps ≤ 99999999) (h1 : σ.seen.length ≤ 1000000) (h2 : σ.vars.length ≤ 1000000) : WB 20 ps σ := ⟨h, hc, by omega, by omega⟩
theorem Tab.pos {w : World} (h : Tab w) : 0 < w.heap.size := by
  unfold Tab Lib.TabIs World.var? at h
  rw [gPow] at h
  simp only [Option.bind_some] at h
  split at h
  · rename_i hh
    exact (Array.getElem?_eq_some_iff.1 hh).1
  · cases h
set_option maxRecDepth 100000 in
set_option maxHeartbeats 4000000 in
theorem works_any [Inhabited LowT] (w : World) (hT : Tab w) (hLow : lowN < w.heap.size) : Calls Tryd.prog 10 #[] w fun e w' => e = .returned (.bool true) ∧ Below w.heap.size w w' := by
  have HT := hid hT
  have HPOS := hid hLow
  clear hT
  go_enter Tryd.func10, Tryd.ntmps10
  go_wp2_with fail
  refine (litp_any [112] w).mono ?_
  rintro e w1 ⟨rfl, hB1⟩
  have HB1 := hid hB1
  clear hB1
  go_wp2_with fail
  refine (par_any [120] [] false none 0 0 w1).mono ?_
  rintro e w2 ⟨rfl, hB2⟩
  have HB2 := hid (HB1.out.trans (hB2.mono HB1.out.size))
  clear hB2
  go_wp2_with fail
  refine (par_any [120] [] true none 0 0 w2).mono ?_
  rintro e w3 ⟨rfl, hB3⟩
  have HB3 := hid (HB2.out.trans (hB3.mono HB2.out.size))
  clear hB3
  go_wp2_with fail
  obtain ⟨W4, hW4⟩ : ∃ W4, W4 = w3.alloc (.cells #[.int .i64 0, .string ⟨#[112]⟩, .string ⟨#[]⟩, .bool false, .slice none 0 0, .pointer none, .int .i64 2, .string ⟨#[120]⟩, .string ⟨#[]⟩, .bool false, .slice none 0 0, .pointer none,
    .int .i64 2, .string ⟨#[120]⟩, .string ⟨#[]⟩, .bool true, .slice none 0 0, .pointer none] 47) := ⟨_, rfl⟩
  have hA4 : At W4 w3.heap.size 47 #[.int .i64 0, .string ⟨#[112]⟩, .string ⟨#[]⟩, .bool false, .slice none 0 0, .pointer none, .int .i64 2, .string ⟨#[120]⟩, .string ⟨#[]⟩, .bool false, .slice none 0 0, .pointer none,
    .int .i64 2, .string ⟨#[120]⟩, .string ⟨#[]⟩, .bool true, .slice none 0 0, .pointer none] := by rw [hW4]; exact heap_alloc_new w3 _
  have hB4 : Below w.heap.size w W4 := by rw [hW4]; exact HB3.out.alloc HB3.out.size _
  have hP4 : PAt 20 W4 (some ⟨w3.heap.size, 0, none⟩) wk1 := PAt.mk [⟨litV [112], none, 0, none⟩, ⟨parV [120] [] false [], none, 0, none⟩, ⟨parV [120] [] true [], none, 0, none⟩] hA4 rfl (by
    intro x hx
    simp only [List.mem_cons, List.not_mem_nil, or_false] at hx
    rcases hx with rfl | rfl | rfl <;> exact ⟨PAt.nil _ _ _, rfl⟩)
  rw [← hW4]
  have HB4 := hid hB4
  have HP4 := hid hP4
  clear hW4 hA4 hB4 hP4
  refine (vars_any w.heap.size W4 HB4.out.size).mono ?_
  rintro e w5 ⟨⟨v, rfl, hV⟩, hB5⟩
  have HB5 := hid (HB4.out.trans (hB5.mono HB4.out.size))
  have HV := hid hV
  have HP5 := hid (HP4.out.below hB5)
  clear hV hB5
  go_wp2_with fail
  refine (said_any w.heap.size varsV wk1 (some ⟨w3.heap.size, 0, none⟩) 3 v w5 HB5.out.size HPOS.out HV.out (HT.out.below HB5.out) HP5.out (wb_small varsV_ok (by decide) (by decide) (by decide))).mono ?_
  rintro e w6 ⟨rfl, hB6⟩
  have HB6 := hid (HB5.out.trans hB6)
  clear hB6
  rw [wk1_said]
  go_wp2_with fail
  refine (par_any [64] [] true none 0 0 w6).mono ?_
  rintro e w7 ⟨rfl, hB7⟩
  have HB7 := hid (HB6.out.trans (hB7.mono HB6.out.size))
  clear hB7
  go_wp2_with fail
  obtain ⟨W8, hW8⟩ : ∃ W8, W8 = w7.alloc (.cells #[.int .i64 2, .string ⟨#[64]⟩, .string ⟨#[]⟩, .bool true, .slice none 0 0, .pointer none] 47) := ⟨_, rfl⟩
  have hA8 : At W8 w7.heap.size 47 #[.int .i64 2, .string ⟨#[64]⟩, .string ⟨#[]⟩, .bool true, .slice none 0 0, .pointer none] := by rw [hW8]; exact heap_alloc_new w7 _
  have hB8 : Below w.heap.size w W8 := by rw [hW8]; exact HB7.out.alloc HB7.out.size _
  have hP8 : PAt 20 W8 (some ⟨w7.heap.size, 0, none⟩) wk2 := PAt.mk [⟨parV [64] [] true [], none, 0, none⟩] hA8 rfl (by
    intro x hx
    simp only [List.mem_cons, List.not_mem_nil, or_false] at hx
    subst hx
    exact ⟨PAt.nil _ _ _, rfl⟩)
  rw [← hW8]
  have HB8 := hid hB8
  have HP8 := hid hP8
  clear hW8 hA8 hB8 hP8
  refine (vars_any w.heap.size W8 HB8.out.size).mono ?_
  rintro e w9 ⟨⟨v2, rfl, hV⟩, hB9⟩
  have HB9 := hid (HB8.out.trans (hB9.mono HB8.out.size))
  have HV2 := hid hV
  have HP9 := hid (HP8.out.below hB9)
  clear hV hB9
  go_wp2_with fail
  refine (said_any w.heap.size varsV wk2 (some ⟨w7.heap.size, 0, none⟩) 1 v2 w9 HB9.out.size HPOS.out HV2.out (HT.out.below HB9.out) HP9.out (wb_small varsV_ok (by decide) (by decide) (by decide))).mono ?_
  rintro e w10 ⟨rfl, hB10⟩
  have HB10 := hid (HB9.out.trans hB10)
  clear hB10
  rw [wk2_said]
  go_wp2_with fail
  go_ret
  exact ⟨rfl, HB10.out⟩
end Go.Proofs.YtklihdlfbhgpeaaDoor
