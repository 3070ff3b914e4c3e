/-
  The walk of ExpandKnown. No conditions beside the table of powers of ten.
-/
import Derived.Test.YtklihdlfbhgpeaaDoorE26b
import Derived.Deep.CutBlock
namespace Go.Proofs.YtklihdlfbhgpeaaDoor
open Go.RowKit
set_option linter.unusedVariables false

set_option maxRecDepth 100000 in
set_option maxHeartbeats 4000000 in
theorem expandKnown_any (w : World) (hT : Tab w) : Calls Tryd.prog 6 #[] w fun e w' => e = .returned (.bool true) ∧ Below w.heap.size w w' := by
  have HT := hid hT
  clear hT
  go_enter Tryd.func6, Tryd.ntmps6
  go_wp2_with fail
  refine (vars_all w).mono ?_
  rintro e w0 ⟨⟨v, rfl, hV⟩, hB0⟩
  obtain ⟨_, vL, AA, cA, hv, hL, _, _⟩ := hV 0
  obtain ⟨AL, cL, hvL, _, _⟩ := own_form hL
  have hv2 : v = .agg #[.slice AL 2 cL, .slice AA 2 cA, .int .i64 7] := by rw [hv, hvL]; rfl
  subst hv2
  clear hL hv hvL
  have HV := hid hV
  have HB0 := hid hB0
  clear hV hB0
  go_wp2_with fail
  obtain ⟨W1, hW⟩ : ∃ V, V = w0.alloc (.cells #[.slice AL 2 cL, .slice AA 2 cA, .int .i64 7] 26) := ⟨_, rfl⟩
  have hA : At W1 w0.heap.size 26 #[.slice AL 2 cL, .slice AA 2 cA, .int .i64 7] := by rw [hW]; exact heap_alloc_new w0 _
  have hB : Below w0.heap.size w0 W1 := by rw [hW]; exact (Below.refl _ _).alloc (Nat.le_refl _) _
  rw [← hW]
  obtain ⟨vb, hb⟩ : ∃ b, b = w0.heap.size := ⟨_, rfl⟩
  rw [← hb] at hA
  rw [← hb]
  have HK1 : Hid (KI w W1 vb (.slice AL 2 cL) AA cA []) := hid ⟨HB0.out.trans (hB.mono HB0.out.size), hA, fun B => (HV.out B).below hB, fun x hx => by cases hx⟩
  clear hA hB hW hb HV HB0
  refine (par_any [42] [] false none 0 0 _).mono ?_
  rintro e w2 ⟨rfl, hB⟩
  have HK2 := hid (HK1.out.below hB)
  clear hB HK1
  go_wp2_with fail
  obtain ⟨W3, hW⟩ : ∃ V, V = w2.alloc (.cells #[.int .i64 2, .string ⟨#[42]⟩, .string ⟨#[]⟩, .bool false, .slice none 0 0, .pointer none] 47) := ⟨_, rfl⟩
  have hA : At W3 w2.heap.size 47 #[.int .i64 2, .string ⟨#[42]⟩, .string ⟨#[]⟩, .bool false, .slice none 0 0, .pointer none] := by rw [hW]; exact heap_alloc_new w2 _
  have hB : Below w2.heap.size w2 W3 := by rw [hW]; exact (Below.refl _ _).alloc (Nat.le_refl _) _
  rw [← hW]
  obtain ⟨b3, hb⟩ : ∃ b, b = w2.heap.size := ⟨_, rfl⟩
  rw [← hb] at hA
  rw [← hb]
  have HK3 := hid (HK2.out.below hB)
  have HQ3 := hid (PA.mk [⟨parV [42] [] false [], none, 0, none⟩] hA rfl (by
    intro x hx
    simp only [List.mem_cons, List.not_mem_nil, or_false] at hx
    rcases hx with rfl
    · exact ⟨PA.nil _ _, rfl⟩))
  clear hA hB hb hW HK2
  have HKr3 := hid (HK3.out.snoc HQ3.out)
  clear HQ3 HK3
  refine (quo_any [97] _).mono ?_
  rintro e w4 ⟨rfl, hB⟩
  have HK4 := hid (HKr3.out.below hB)
  clear hB HKr3
  go_wp2_with fail
  refine (par_any [64] [] true none 0 0 _).mono ?_
  rintro e w5 ⟨rfl, hB⟩
  have HK5 := hid (HK4.out.below hB)
  clear hB HK4
  go_wp2_with fail
  obtain ⟨W6, hW⟩ : ∃ V, V = w5.alloc (.cells #[.int .i64 1, .string ⟨#[97]⟩, .string ⟨#[]⟩, .bool true, .slice none 0 0, .pointer none, .int .i64 2, .string ⟨#[64]⟩, .string ⟨#[]⟩, .bool true, .slice none 0 0, .pointer none] 47) := ⟨_, rfl⟩
  have hA : At W6 w5.heap.size 47 #[.int .i64 1, .string ⟨#[97]⟩, .string ⟨#[]⟩, .bool true, .slice none 0 0, .pointer none, .int .i64 2, .string ⟨#[64]⟩, .string ⟨#[]⟩, .bool true, .slice none 0 0, .pointer none] := by rw [hW]; exact heap_alloc_new w5 _
  have hB : Below w5.heap.size w5 W6 := by rw [hW]; exact (Below.refl _ _).alloc (Nat.le_refl _) _
  rw [← hW]
  obtain ⟨b6, hb⟩ : ∃ b, b = w5.heap.size := ⟨_, rfl⟩
  rw [← hb] at hA
  rw [← hb]
  have HK6 := hid (HK5.out.below hB)
  have HQ6 := hid (PA.mk [⟨quoV [97], none, 0, none⟩, ⟨parV [64] [] true [], none, 0, none⟩] hA rfl (by
    intro x hx
    simp only [List.mem_cons, List.not_mem_nil, or_false] at hx
    rcases hx with rfl | rfl
    · exact ⟨PA.nil _ _, rfl⟩
    · exact ⟨PA.nil _ _, rfl⟩))
  clear hA hB hb hW HK5
  have HKr6 := hid (HK6.out.snoc HQ6.out)
  clear HQ6 HK6
  refine (par_any [42] [] true none 0 0 _).mono ?_
  rintro e w7 ⟨rfl, hB⟩
  have HK7 := hid (HKr6.out.below hB)
  clear hB HKr6
  go_wp2_with fail
  obtain ⟨W8, hW⟩ : ∃ V, V = w7.alloc (.cells #[.int .i64 2, .string ⟨#[42]⟩, .string ⟨#[]⟩, .bool true, .slice none 0 0, .pointer none] 47) := ⟨_, rfl⟩
  have hA : At W8 w7.heap.size 47 #[.int .i64 2, .string ⟨#[42]⟩, .string ⟨#[]⟩, .bool true, .slice none 0 0, .pointer none] := by rw [hW]; exact heap_alloc_new w7 _
  have hB : Below w7.heap.size w7 W8 := by rw [hW]; exact (Below.refl _ _).alloc (Nat.le_refl _) _
  rw [← hW]
  obtain ⟨b8, hb⟩ : ∃ b, b = w7.heap.size := ⟨_, rfl⟩
  rw [← hb] at hA
  rw [← hb]
  have HK8 := hid (HK7.out.below hB)
  have HQ8 := hid (PA.mk [⟨parV [42] [] true [], none, 0, none⟩] hA rfl (by
    intro x hx
    simp only [List.mem_cons, List.not_mem_nil, or_false] at hx
    rcases hx with rfl
    · exact ⟨PA.nil _ _, rfl⟩))
  clear hA hB hb hW HK7
  have HKr8 := hid (HK8.out.snoc HQ8.out)
  clear HQ8 HK8
  refine (litp_any [113, 32, 114] _).mono ?_
  rintro e w9 ⟨rfl, hB⟩
  have HK9 := hid (HKr8.out.below hB)
  clear hB HKr8
  go_wp2_with fail
  obtain ⟨W10, hW⟩ : ∃ V, V = w9.alloc (.cells #[.int .i64 0, .string ⟨#[113, 32, 114]⟩, .string ⟨#[]⟩, .bool false, .slice none 0 0, .pointer none] 47) := ⟨_, rfl⟩
  have hA : At W10 w9.heap.size 47 #[.int .i64 0, .string ⟨#[113, 32, 114]⟩, .string ⟨#[]⟩, .bool false, .slice none 0 0, .pointer none] := by rw [hW]; exact heap_alloc_new w9 _
  have hB : Below w9.heap.size w9 W10 := by rw [hW]; exact (Below.refl _ _).alloc (Nat.le_refl _) _
  rw [← hW]
  obtain ⟨b10, hb⟩ : ∃ b, b = w9.heap.size := ⟨_, rfl⟩
  rw [← hb] at hA
  rw [← hb]
  have HK10 := hid (HK9.out.below hB)
  have HQ10 := hid (PA.mk [⟨litV [113, 32, 114], none, 0, none⟩] hA rfl (by
    intro x hx
    simp only [List.mem_cons, List.not_mem_nil, or_false] at hx
    rcases hx with rfl
    · exact ⟨PA.nil _ _, rfl⟩))
  clear hA hB hb hW HK9
  refine (par_any [122] [58, 45] false (some ⟨b10, 0, none⟩) 1 1 _).mono ?_
  rintro e w11 ⟨rfl, hB⟩
  have HK11 := hid (HK10.out.below hB)
  have HP11_b10 := hid (HQ10.out.below hB)
  clear HQ10
  clear hB HK10
  go_wp2_with fail
  obtain ⟨W12, hW⟩ : ∃ V, V = w11.alloc (.cells #[.int .i64 2, .string ⟨#[122]⟩, .string ⟨#[58, 45]⟩, .bool false, .slice (some ⟨b10, 0, none⟩) 1 1, .pointer none] 47) := ⟨_, rfl⟩
  have hA : At W12 w11.heap.size 47 #[.int .i64 2, .string ⟨#[122]⟩, .string ⟨#[58, 45]⟩, .bool false, .slice (some ⟨b10, 0, none⟩) 1 1, .pointer none] := by rw [hW]; exact heap_alloc_new w11 _
  have hB : Below w11.heap.size w11 W12 := by rw [hW]; exact (Below.refl _ _).alloc (Nat.le_refl _) _
  rw [← hW]
  obtain ⟨b12, hb⟩ : ∃ b, b = w11.heap.size := ⟨_, rfl⟩
  rw [← hb] at hA
  rw [← hb]
  have HK12 := hid (HK11.out.below hB)
  have HP12_b10 := hid (HP11_b10.out.below hB)
  clear HP11_b10
  have HQ12 := hid (PA.mk [⟨parV [122] [58, 45] false [litV [113, 32, 114]], some ⟨b10, 0, none⟩, 1, none⟩] hA rfl (by
    intro x hx
    simp only [List.mem_cons, List.not_mem_nil, or_false] at hx
    rcases hx with rfl
    · exact ⟨HP12_b10.out, rfl⟩))
  clear HP12_b10
  clear hA hB hb hW HK11
  have HKr12 := hid (HK12.out.snoc HQ12.out)
  clear HQ12 HK12
  refine (litp_any [113] _).mono ?_
  rintro e w13 ⟨rfl, hB⟩
  have HK13 := hid (HKr12.out.below hB)
  clear hB HKr12
  go_wp2_with fail
  obtain ⟨W14, hW⟩ : ∃ V, V = w13.alloc (.cells #[.int .i64 0, .string ⟨#[113]⟩, .string ⟨#[]⟩, .bool false, .slice none 0 0, .pointer none] 47) := ⟨_, rfl⟩
  have hA : At W14 w13.heap.size 47 #[.int .i64 0, .string ⟨#[113]⟩, .string ⟨#[]⟩, .bool false, .slice none 0 0, .pointer none] := by rw [hW]; exact heap_alloc_new w13 _
  have hB : Below w13.heap.size w13 W14 := by rw [hW]; exact (Below.refl _ _).alloc (Nat.le_refl _) _
  rw [← hW]
  obtain ⟨b14, hb⟩ : ∃ b, b = w13.heap.size := ⟨_, rfl⟩
  rw [← hb] at hA
  rw [← hb]
  have HK14 := hid (HK13.out.below hB)
  have HQ14 := hid (PA.mk [⟨litV [113], none, 0, none⟩] hA rfl (by
    intro x hx
    simp only [List.mem_cons, List.not_mem_nil, or_false] at hx
    rcases hx with rfl
    · exact ⟨PA.nil _ _, rfl⟩))
  clear hA hB hb hW HK13
  refine (par_any [121] [45] false (some ⟨b14, 0, none⟩) 1 1 _).mono ?_
  rintro e w15 ⟨rfl, hB⟩
  have HK15 := hid (HK14.out.below hB)
  have HP15_b14 := hid (HQ14.out.below hB)
  clear HQ14
  clear hB HK14
  go_wp2_with fail
  obtain ⟨W16, hW⟩ : ∃ V, V = w15.alloc (.cells #[.int .i64 2, .string ⟨#[121]⟩, .string ⟨#[45]⟩, .bool false, .slice (some ⟨b14, 0, none⟩) 1 1, .pointer none] 47) := ⟨_, rfl⟩
  have hA : At W16 w15.heap.size 47 #[.int .i64 2, .string ⟨#[121]⟩, .string ⟨#[45]⟩, .bool false, .slice (some ⟨b14, 0, none⟩) 1 1, .pointer none] := by rw [hW]; exact heap_alloc_new w15 _
  have hB : Below w15.heap.size w15 W16 := by rw [hW]; exact (Below.refl _ _).alloc (Nat.le_refl _) _
  rw [← hW]
  obtain ⟨b16, hb⟩ : ∃ b, b = w15.heap.size := ⟨_, rfl⟩
  rw [← hb] at hA
  rw [← hb]
  have HK16 := hid (HK15.out.below hB)
  have HP16_b14 := hid (HP15_b14.out.below hB)
  clear HP15_b14
  have HQ16 := hid (PA.mk [⟨parV [121] [45] false [litV [113]], some ⟨b14, 0, none⟩, 1, none⟩] hA rfl (by
    intro x hx
    simp only [List.mem_cons, List.not_mem_nil, or_false] at hx
    rcases hx with rfl
    · exact ⟨HP16_b14.out, rfl⟩))
  clear HP16_b14
  clear hA hB hb hW HK15
  have HKr16 := hid (HK16.out.snoc HQ16.out)
  clear HQ16 HK16
  refine (quo_any [113] _).mono ?_
  rintro e w17 ⟨rfl, hB⟩
  have HK17 := hid (HKr16.out.below hB)
  clear hB HKr16
  go_wp2_with fail
  obtain ⟨W18, hW⟩ : ∃ V, V = w17.alloc (.cells #[.int .i64 1, .string ⟨#[113]⟩, .string ⟨#[]⟩, .bool true, .slice none 0 0, .pointer none] 47) := ⟨_, rfl⟩
  have hA : At W18 w17.heap.size 47 #[.int .i64 1, .string ⟨#[113]⟩, .string ⟨#[]⟩, .bool true, .slice none 0 0, .pointer none] := by rw [hW]; exact heap_alloc_new w17 _
  have hB : Below w17.heap.size w17 W18 := by rw [hW]; exact (Below.refl _ _).alloc (Nat.le_refl _) _
  rw [← hW]
  obtain ⟨b18, hb⟩ : ∃ b, b = w17.heap.size := ⟨_, rfl⟩
  rw [← hb] at hA
  rw [← hb]
  have HK18 := hid (HK17.out.below hB)
  have HQ18 := hid (PA.mk [⟨quoV [113], none, 0, none⟩] hA rfl (by
    intro x hx
    simp only [List.mem_cons, List.not_mem_nil, or_false] at hx
    rcases hx with rfl
    · exact ⟨PA.nil _ _, rfl⟩))
  clear hA hB hb hW HK17
  refine (par_any [121] [58, 43] true (some ⟨b18, 0, none⟩) 1 1 _).mono ?_
  rintro e w19 ⟨rfl, hB⟩
  have HK19 := hid (HK18.out.below hB)
  have HP19_b18 := hid (HQ18.out.below hB)
  clear HQ18
  clear hB HK18
  go_wp2_with fail
  obtain ⟨W20, hW⟩ : ∃ V, V = w19.alloc (.cells #[.int .i64 2, .string ⟨#[121]⟩, .string ⟨#[58, 43]⟩, .bool true, .slice (some ⟨b18, 0, none⟩) 1 1, .pointer none] 47) := ⟨_, rfl⟩
  have hA : At W20 w19.heap.size 47 #[.int .i64 2, .string ⟨#[121]⟩, .string ⟨#[58, 43]⟩, .bool true, .slice (some ⟨b18, 0, none⟩) 1 1, .pointer none] := by rw [hW]; exact heap_alloc_new w19 _
  have hB : Below w19.heap.size w19 W20 := by rw [hW]; exact (Below.refl _ _).alloc (Nat.le_refl _) _
  rw [← hW]
  obtain ⟨b20, hb⟩ : ∃ b, b = w19.heap.size := ⟨_, rfl⟩
  rw [← hb] at hA
  rw [← hb]
  have HK20 := hid (HK19.out.below hB)
  have HP20_b18 := hid (HP19_b18.out.below hB)
  clear HP19_b18
  have HQ20 := hid (PA.mk [⟨parV [121] [58, 43] true [quoV [113]], some ⟨b18, 0, none⟩, 1, none⟩] hA rfl (by
    intro x hx
    simp only [List.mem_cons, List.not_mem_nil, or_false] at hx
    rcases hx with rfl
    · exact ⟨HP20_b18.out, rfl⟩))
  clear HP20_b18
  clear hA hB hb hW HK19
  have HKr20 := hid (HK20.out.snoc HQ20.out)
  clear HQ20 HK20
  refine (quo_any [113] _).mono ?_
  rintro e w21 ⟨rfl, hB⟩
  have HK21 := hid (HKr20.out.below hB)
  clear hB HKr20
  go_wp2_with fail
  obtain ⟨W22, hW⟩ : ∃ V, V = w21.alloc (.cells #[.int .i64 1, .string ⟨#[113]⟩, .string ⟨#[]⟩, .bool true, .slice none 0 0, .pointer none] 47) := ⟨_, rfl⟩
  have hA : At W22 w21.heap.size 47 #[.int .i64 1, .string ⟨#[113]⟩, .string ⟨#[]⟩, .bool true, .slice none 0 0, .pointer none] := by rw [hW]; exact heap_alloc_new w21 _
  have hB : Below w21.heap.size w21 W22 := by rw [hW]; exact (Below.refl _ _).alloc (Nat.le_refl _) _
  rw [← hW]
  obtain ⟨b22, hb⟩ : ∃ b, b = w21.heap.size := ⟨_, rfl⟩
  rw [← hb] at hA
  rw [← hb]
  have HK22 := hid (HK21.out.below hB)
  have HQ22 := hid (PA.mk [⟨quoV [113], none, 0, none⟩] hA rfl (by
    intro x hx
    simp only [List.mem_cons, List.not_mem_nil, or_false] at hx
    rcases hx with rfl
    · exact ⟨PA.nil _ _, rfl⟩))
  clear hA hB hb hW HK21
  refine (par_any [121] [43] true (some ⟨b22, 0, none⟩) 1 1 _).mono ?_
  rintro e w23 ⟨rfl, hB⟩
  have HK23 := hid (HK22.out.below hB)
  have HP23_b22 := hid (HQ22.out.below hB)
  clear HQ22
  clear hB HK22
  go_wp2_with fail
  obtain ⟨W24, hW⟩ : ∃ V, V = w23.alloc (.cells #[.int .i64 2, .string ⟨#[121]⟩, .string ⟨#[43]⟩, .bool true, .slice (some ⟨b22, 0, none⟩) 1 1, .pointer none] 47) := ⟨_, rfl⟩
  have hA : At W24 w23.heap.size 47 #[.int .i64 2, .string ⟨#[121]⟩, .string ⟨#[43]⟩, .bool true, .slice (some ⟨b22, 0, none⟩) 1 1, .pointer none] := by rw [hW]; exact heap_alloc_new w23 _
  have hB : Below w23.heap.size w23 W24 := by rw [hW]; exact (Below.refl _ _).alloc (Nat.le_refl _) _
  rw [← hW]
  obtain ⟨b24, hb⟩ : ∃ b, b = w23.heap.size := ⟨_, rfl⟩
  rw [← hb] at hA
  rw [← hb]
  have HK24 := hid (HK23.out.below hB)
  have HP24_b22 := hid (HP23_b22.out.below hB)
  clear HP23_b22
  have HQ24 := hid (PA.mk [⟨parV [121] [43] true [quoV [113]], some ⟨b22, 0, none⟩, 1, none⟩] hA rfl (by
    intro x hx
    simp only [List.mem_cons, List.not_mem_nil, or_false] at hx
    rcases hx with rfl
    · exact ⟨HP24_b22.out, rfl⟩))
  clear HP24_b22
  clear hA hB hb hW HK23
  have HKr24 := hid (HK24.out.snoc HQ24.out)
  clear HQ24 HK24
  refine (litp_any [97, 42] _).mono ?_
  rintro e w25 ⟨rfl, hB⟩
  have HK25 := hid (HKr24.out.below hB)
  clear hB HKr24
  go_wp2_with fail
  obtain ⟨W26, hW⟩ : ∃ V, V = w25.alloc (.cells #[.int .i64 0, .string ⟨#[97, 42]⟩, .string ⟨#[]⟩, .bool false, .slice none 0 0, .pointer none] 47) := ⟨_, rfl⟩
  have hA : At W26 w25.heap.size 47 #[.int .i64 0, .string ⟨#[97, 42]⟩, .string ⟨#[]⟩, .bool false, .slice none 0 0, .pointer none] := by rw [hW]; exact heap_alloc_new w25 _
  have hB : Below w25.heap.size w25 W26 := by rw [hW]; exact (Below.refl _ _).alloc (Nat.le_refl _) _
  rw [← hW]
  obtain ⟨b26, hb⟩ : ∃ b, b = w25.heap.size := ⟨_, rfl⟩
  rw [← hb] at hA
  rw [← hb]
  have HK26 := hid (HK25.out.below hB)
  have HQ26 := hid (PA.mk [⟨litV [97, 42], none, 0, none⟩] hA rfl (by
    intro x hx
    simp only [List.mem_cons, List.not_mem_nil, or_false] at hx
    rcases hx with rfl
    · exact ⟨PA.nil _ _, rfl⟩))
  clear hA hB hb hW HK25
  refine (par_any [120] [35] false (some ⟨b26, 0, none⟩) 1 1 _).mono ?_
  rintro e w27 ⟨rfl, hB⟩
  have HK27 := hid (HK26.out.below hB)
  have HP27_b26 := hid (HQ26.out.below hB)
  clear HQ26
  clear hB HK26
  go_wp2_with fail
  obtain ⟨W28, hW⟩ : ∃ V, V = w27.alloc (.cells #[.int .i64 2, .string ⟨#[120]⟩, .string ⟨#[35]⟩, .bool false, .slice (some ⟨b26, 0, none⟩) 1 1, .pointer none] 47) := ⟨_, rfl⟩
  have hA : At W28 w27.heap.size 47 #[.int .i64 2, .string ⟨#[120]⟩, .string ⟨#[35]⟩, .bool false, .slice (some ⟨b26, 0, none⟩) 1 1, .pointer none] := by rw [hW]; exact heap_alloc_new w27 _
  have hB : Below w27.heap.size w27 W28 := by rw [hW]; exact (Below.refl _ _).alloc (Nat.le_refl _) _
  rw [← hW]
  obtain ⟨b28, hb⟩ : ∃ b, b = w27.heap.size := ⟨_, rfl⟩
  rw [← hb] at hA
  rw [← hb]
  have HK28 := hid (HK27.out.below hB)
  have HP28_b26 := hid (HP27_b26.out.below hB)
  clear HP27_b26
  have HQ28 := hid (PA.mk [⟨parV [120] [35] false [litV [97, 42]], some ⟨b26, 0, none⟩, 1, none⟩] hA rfl (by
    intro x hx
    simp only [List.mem_cons, List.not_mem_nil, or_false] at hx
    rcases hx with rfl
    · exact ⟨HP28_b26.out, rfl⟩))
  clear HP28_b26
  clear hA hB hb hW HK27
  have HKr28 := hid (HK28.out.snoc HQ28.out)
  clear HQ28 HK28
  refine (litp_any [97, 42] _).mono ?_
  rintro e w29 ⟨rfl, hB⟩
  have HK29 := hid (HKr28.out.below hB)
  clear hB HKr28
  go_wp2_with fail
  obtain ⟨W30, hW⟩ : ∃ V, V = w29.alloc (.cells #[.int .i64 0, .string ⟨#[97, 42]⟩, .string ⟨#[]⟩, .bool false, .slice none 0 0, .pointer none] 47) := ⟨_, rfl⟩
  have hA : At W30 w29.heap.size 47 #[.int .i64 0, .string ⟨#[97, 42]⟩, .string ⟨#[]⟩, .bool false, .slice none 0 0, .pointer none] := by rw [hW]; exact heap_alloc_new w29 _
  have hB : Below w29.heap.size w29 W30 := by rw [hW]; exact (Below.refl _ _).alloc (Nat.le_refl _) _
  rw [← hW]
  obtain ⟨b30, hb⟩ : ∃ b, b = w29.heap.size := ⟨_, rfl⟩
  rw [← hb] at hA
  rw [← hb]
  have HK30 := hid (HK29.out.below hB)
  have HQ30 := hid (PA.mk [⟨litV [97, 42], none, 0, none⟩] hA rfl (by
    intro x hx
    simp only [List.mem_cons, List.not_mem_nil, or_false] at hx
    rcases hx with rfl
    · exact ⟨PA.nil _ _, rfl⟩))
  clear hA hB hb hW HK29
  refine (par_any [120] [35, 35] false (some ⟨b30, 0, none⟩) 1 1 _).mono ?_
  rintro e w31 ⟨rfl, hB⟩
  have HK31 := hid (HK30.out.below hB)
  have HP31_b30 := hid (HQ30.out.below hB)
  clear HQ30
  clear hB HK30
  go_wp2_with fail
  obtain ⟨W32, hW⟩ : ∃ V, V = w31.alloc (.cells #[.int .i64 2, .string ⟨#[120]⟩, .string ⟨#[35, 35]⟩, .bool false, .slice (some ⟨b30, 0, none⟩) 1 1, .pointer none] 47) := ⟨_, rfl⟩
  have hA : At W32 w31.heap.size 47 #[.int .i64 2, .string ⟨#[120]⟩, .string ⟨#[35, 35]⟩, .bool false, .slice (some ⟨b30, 0, none⟩) 1 1, .pointer none] := by rw [hW]; exact heap_alloc_new w31 _
  have hB : Below w31.heap.size w31 W32 := by rw [hW]; exact (Below.refl _ _).alloc (Nat.le_refl _) _
  rw [← hW]
  obtain ⟨b32, hb⟩ : ∃ b, b = w31.heap.size := ⟨_, rfl⟩
  rw [← hb] at hA
  rw [← hb]
  have HK32 := hid (HK31.out.below hB)
  have HP32_b30 := hid (HP31_b30.out.below hB)
  clear HP31_b30
  have HQ32 := hid (PA.mk [⟨parV [120] [35, 35] false [litV [97, 42]], some ⟨b30, 0, none⟩, 1, none⟩] hA rfl (by
    intro x hx
    simp only [List.mem_cons, List.not_mem_nil, or_false] at hx
    rcases hx with rfl
    · exact ⟨HP32_b30.out, rfl⟩))
  clear HP32_b30
  clear hA hB hb hW HK31
  have HKr32 := hid (HK32.out.snoc HQ32.out)
  clear HQ32 HK32
  refine (litp_any [42] _).mono ?_
  rintro e w33 ⟨rfl, hB⟩
  have HK33 := hid (HKr32.out.below hB)
  clear hB HKr32
  go_wp2_with fail
  obtain ⟨W34, hW⟩ : ∃ V, V = w33.alloc (.cells #[.int .i64 1, .string ⟨#[32]⟩, .string ⟨#[]⟩, .bool false, .slice none 0 0, .pointer none, .int .i64 0, .string ⟨#[42]⟩, .string ⟨#[]⟩, .bool false, .slice none 0 0, .pointer none] 47) := ⟨_, rfl⟩
  have hA : At W34 w33.heap.size 47 #[.int .i64 1, .string ⟨#[32]⟩, .string ⟨#[]⟩, .bool false, .slice none 0 0, .pointer none, .int .i64 0, .string ⟨#[42]⟩, .string ⟨#[]⟩, .bool false, .slice none 0 0, .pointer none] := by rw [hW]; exact heap_alloc_new w33 _
  have hB : Below w33.heap.size w33 W34 := by rw [hW]; exact (Below.refl _ _).alloc (Nat.le_refl _) _
  rw [← hW]
  obtain ⟨b34, hb⟩ : ∃ b, b = w33.heap.size := ⟨_, rfl⟩
  rw [← hb] at hA
  rw [← hb]
  have HK34 := hid (HK33.out.below hB)
  have HQ34 := hid (PA.mk [⟨.mk 1 [32] [] false [] none, none, 0, none⟩, ⟨litV [42], none, 0, none⟩] hA rfl (by
    intro x hx
    simp only [List.mem_cons, List.not_mem_nil, or_false] at hx
    rcases hx with rfl | rfl
    · exact ⟨PA.nil _ _, rfl⟩
    · exact ⟨PA.nil _ _, rfl⟩))
  clear hA hB hb hW HK33
  refine (par_any [120] [37, 37] false (some ⟨b34, 0, none⟩) 2 2 _).mono ?_
  rintro e w35 ⟨rfl, hB⟩
  have HK35 := hid (HK34.out.below hB)
  have HP35_b34 := hid (HQ34.out.below hB)
  clear HQ34
  clear hB HK34
  go_wp2_with fail
  obtain ⟨W36, hW⟩ : ∃ V, V = w35.alloc (.cells #[.int .i64 2, .string ⟨#[120]⟩, .string ⟨#[37, 37]⟩, .bool false, .slice (some ⟨b34, 0, none⟩) 2 2, .pointer none] 47) := ⟨_, rfl⟩
  have hA : At W36 w35.heap.size 47 #[.int .i64 2, .string ⟨#[120]⟩, .string ⟨#[37, 37]⟩, .bool false, .slice (some ⟨b34, 0, none⟩) 2 2, .pointer none] := by rw [hW]; exact heap_alloc_new w35 _
  have hB : Below w35.heap.size w35 W36 := by rw [hW]; exact (Below.refl _ _).alloc (Nat.le_refl _) _
  rw [← hW]
  obtain ⟨b36, hb⟩ : ∃ b, b = w35.heap.size := ⟨_, rfl⟩
  rw [← hb] at hA
  rw [← hb]
  have HK36 := hid (HK35.out.below hB)
  have HP36_b34 := hid (HP35_b34.out.below hB)
  clear HP35_b34
  have HQ36 := hid (PA.mk [⟨parV [120] [37, 37] false [.mk 1 [32] [] false [] none, litV [42]], some ⟨b34, 0, none⟩, 2, none⟩] hA rfl (by
    intro x hx
    simp only [List.mem_cons, List.not_mem_nil, or_false] at hx
    rcases hx with rfl
    · exact ⟨HP36_b34.out, rfl⟩))
  clear HP36_b34
  clear hA hB hb hW HK35
  have HKr36 := hid (HK36.out.snoc HQ36.out)
  clear HQ36 HK36
  refine (par_any [120] [108, 101, 110] false none 0 0 _).mono ?_
  rintro e w37 ⟨rfl, hB⟩
  have HK37 := hid (HKr36.out.below hB)
  clear hB HKr36
  go_wp2_with fail
  obtain ⟨W38, hW⟩ : ∃ V, V = w37.alloc (.cells #[.int .i64 2, .string ⟨#[120]⟩, .string ⟨#[108, 101, 110]⟩, .bool false, .slice none 0 0, .pointer none] 47) := ⟨_, rfl⟩
  have hA : At W38 w37.heap.size 47 #[.int .i64 2, .string ⟨#[120]⟩, .string ⟨#[108, 101, 110]⟩, .bool false, .slice none 0 0, .pointer none] := by rw [hW]; exact heap_alloc_new w37 _
  have hB : Below w37.heap.size w37 W38 := by rw [hW]; exact (Below.refl _ _).alloc (Nat.le_refl _) _
  rw [← hW]
  obtain ⟨b38, hb⟩ : ∃ b, b = w37.heap.size := ⟨_, rfl⟩
  rw [← hb] at hA
  rw [← hb]
  have HK38 := hid (HK37.out.below hB)
  have HQ38 := hid (PA.mk [⟨parV [120] [108, 101, 110] false [], none, 0, none⟩] hA rfl (by
    intro x hx
    simp only [List.mem_cons, List.not_mem_nil, or_false] at hx
    rcases hx with rfl
    · exact ⟨PA.nil _ _, rfl⟩))
  clear hA hB hb hW HK37
  have HKr38 := hid (HK38.out.snoc HQ38.out)
  clear HQ38 HK38
  refine (par_any [64] [108, 101, 110] true none 0 0 _).mono ?_
  rintro e w39 ⟨rfl, hB⟩
  have HK39 := hid (HKr38.out.below hB)
  clear hB HKr38
  go_wp2_with fail
  refine (par_any [35] [] false none 0 0 _).mono ?_
  rintro e w40 ⟨rfl, hB⟩
  have HK40 := hid (HK39.out.below hB)
  clear hB HK39
  go_wp2_with fail
  refine (par_any [63] [] false none 0 0 _).mono ?_
  rintro e w41 ⟨rfl, hB⟩
  have HK41 := hid (HK40.out.below hB)
  clear hB HK40
  go_wp2_with fail
  obtain ⟨W42, hW⟩ : ∃ V, V = w41.alloc (.cells #[.int .i64 2, .string ⟨#[64]⟩, .string ⟨#[108, 101, 110]⟩, .bool true, .slice none 0 0, .pointer none, .int .i64 2, .string ⟨#[35]⟩, .string ⟨#[]⟩, .bool false, .slice none 0 0, .pointer none, .int .i64 2, .string ⟨#[63]⟩, .string ⟨#[]⟩, .bool false, .slice none 0 0, .pointer none] 47) := ⟨_, rfl⟩
  have hA : At W42 w41.heap.size 47 #[.int .i64 2, .string ⟨#[64]⟩, .string ⟨#[108, 101, 110]⟩, .bool true, .slice none 0 0, .pointer none, .int .i64 2, .string ⟨#[35]⟩, .string ⟨#[]⟩, .bool false, .slice none 0 0, .pointer none, .int .i64 2, .string ⟨#[63]⟩, .string ⟨#[]⟩, .bool false, .slice none 0 0, .pointer none] := by rw [hW]; exact heap_alloc_new w41 _
  have hB : Below w41.heap.size w41 W42 := by rw [hW]; exact (Below.refl _ _).alloc (Nat.le_refl _) _
  rw [← hW]
  obtain ⟨b42, hb⟩ : ∃ b, b = w41.heap.size := ⟨_, rfl⟩
  rw [← hb] at hA
  rw [← hb]
  have HK42 := hid (HK41.out.below hB)
  have HQ42 := hid (PA.mk [⟨parV [64] [108, 101, 110] true [], none, 0, none⟩, ⟨parV [35] [] false [], none, 0, none⟩, ⟨parV [63] [] false [], none, 0, none⟩] hA rfl (by
    intro x hx
    simp only [List.mem_cons, List.not_mem_nil, or_false] at hx
    rcases hx with rfl | rfl | rfl
    · exact ⟨PA.nil _ _, rfl⟩
    · exact ⟨PA.nil _ _, rfl⟩
    · exact ⟨PA.nil _ _, rfl⟩))
  clear hA hB hb hW HK41
  have HKr42 := hid (HK42.out.snoc HQ42.out)
  clear HQ42 HK42
  refine (par_any [49] [] false none 0 0 _).mono ?_
  rintro e w43 ⟨rfl, hB⟩
  have HK43 := hid (HKr42.out.below hB)
  clear hB HKr42
  go_wp2_with fail
  refine (par_any [50] [] true none 0 0 _).mono ?_
  rintro e w44 ⟨rfl, hB⟩
  have HK44 := hid (HK43.out.below hB)
  clear hB HK43
  go_wp2_with fail
  refine (par_any [51] [] false none 0 0 _).mono ?_
  rintro e w45 ⟨rfl, hB⟩
  have HK45 := hid (HK44.out.below hB)
  clear hB HK44
  go_wp2_with fail
  refine (litp_any [107] _).mono ?_
  rintro e w46 ⟨rfl, hB⟩
  have HK46 := hid (HK45.out.below hB)
  clear hB HK45
  go_wp2_with fail
  obtain ⟨W47, hW⟩ : ∃ V, V = w46.alloc (.cells #[.int .i64 0, .string ⟨#[107]⟩, .string ⟨#[]⟩, .bool false, .slice none 0 0, .pointer none] 47) := ⟨_, rfl⟩
  have hA : At W47 w46.heap.size 47 #[.int .i64 0, .string ⟨#[107]⟩, .string ⟨#[]⟩, .bool false, .slice none 0 0, .pointer none] := by rw [hW]; exact heap_alloc_new w46 _
  have hB : Below w46.heap.size w46 W47 := by rw [hW]; exact (Below.refl _ _).alloc (Nat.le_refl _) _
  rw [← hW]
  obtain ⟨b47, hb⟩ : ∃ b, b = w46.heap.size := ⟨_, rfl⟩
  rw [← hb] at hA
  rw [← hb]
  have HK47 := hid (HK46.out.below hB)
  have HQ47 := hid (PA.mk [⟨litV [107], none, 0, none⟩] hA rfl (by
    intro x hx
    simp only [List.mem_cons, List.not_mem_nil, or_false] at hx
    rcases hx with rfl
    · exact ⟨PA.nil _ _, rfl⟩))
  clear hA hB hb hW HK46
  refine (par_any [51] [45] false (some ⟨b47, 0, none⟩) 1 1 _).mono ?_
  rintro e w48 ⟨rfl, hB⟩
  have HK48 := hid (HK47.out.below hB)
  have HP48_b47 := hid (HQ47.out.below hB)
  clear HQ47
  clear hB HK47
  go_wp2_with fail
  obtain ⟨W49, hW⟩ : ∃ V, V = w48.alloc (.cells #[.int .i64 2, .string ⟨#[49]⟩, .string ⟨#[]⟩, .bool false, .slice none 0 0, .pointer none, .int .i64 2, .string ⟨#[50]⟩, .string ⟨#[]⟩, .bool true, .slice none 0 0, .pointer none, .int .i64 2, .string ⟨#[51]⟩, .string ⟨#[]⟩, .bool false, .slice none 0 0, .pointer none, .int .i64 2, .string ⟨#[51]⟩, .string ⟨#[45]⟩, .bool false, .slice (some ⟨b47, 0, none⟩) 1 1, .pointer none] 47) := ⟨_, rfl⟩
  have hA : At W49 w48.heap.size 47 #[.int .i64 2, .string ⟨#[49]⟩, .string ⟨#[]⟩, .bool false, .slice none 0 0, .pointer none, .int .i64 2, .string ⟨#[50]⟩, .string ⟨#[]⟩, .bool true, .slice none 0 0, .pointer none, .int .i64 2, .string ⟨#[51]⟩, .string ⟨#[]⟩, .bool false, .slice none 0 0, .pointer none, .int .i64 2, .string ⟨#[51]⟩, .string ⟨#[45]⟩, .bool false, .slice (some ⟨b47, 0, none⟩) 1 1, .pointer none] := by rw [hW]; exact heap_alloc_new w48 _
  have hB : Below w48.heap.size w48 W49 := by rw [hW]; exact (Below.refl _ _).alloc (Nat.le_refl _) _
  rw [← hW]
  obtain ⟨b49, hb⟩ : ∃ b, b = w48.heap.size := ⟨_, rfl⟩
  rw [← hb] at hA
  rw [← hb]
  have HK49 := hid (HK48.out.below hB)
  have HP49_b47 := hid (HP48_b47.out.below hB)
  clear HP48_b47
  have HQ49 := hid (PA.mk [⟨parV [49] [] false [], none, 0, none⟩, ⟨parV [50] [] true [], none, 0, none⟩, ⟨parV [51] [] false [], none, 0, none⟩, ⟨parV [51] [45] false [litV [107]], some ⟨b47, 0, none⟩, 1, none⟩] hA rfl (by
    intro x hx
    simp only [List.mem_cons, List.not_mem_nil, or_false] at hx
    rcases hx with rfl | rfl | rfl | rfl
    · exact ⟨PA.nil _ _, rfl⟩
    · exact ⟨PA.nil _ _, rfl⟩
    · exact ⟨PA.nil _ _, rfl⟩
    · exact ⟨HP49_b47.out, rfl⟩))
  clear HP49_b47
  clear hA hB hb hW HK48
  have HKr49 := hid (HK49.out.snoc HQ49.out)
  clear HQ49 HK49
  refine (par_any [64] [] true none 0 0 _).mono ?_
  rintro e w50 ⟨rfl, hB⟩
  have HK50 := hid (HKr49.out.below hB)
  clear hB HKr49
  go_wp2_with fail
  obtain ⟨W51, hW⟩ : ∃ V, V = w50.alloc (.cells #[.int .i64 2, .string ⟨#[64]⟩, .string ⟨#[]⟩, .bool true, .slice none 0 0, .pointer none] 47) := ⟨_, rfl⟩
  have hA : At W51 w50.heap.size 47 #[.int .i64 2, .string ⟨#[64]⟩, .string ⟨#[]⟩, .bool true, .slice none 0 0, .pointer none] := by rw [hW]; exact heap_alloc_new w50 _
  have hB : Below w50.heap.size w50 W51 := by rw [hW]; exact (Below.refl _ _).alloc (Nat.le_refl _) _
  rw [← hW]
  obtain ⟨b51, hb⟩ : ∃ b, b = w50.heap.size := ⟨_, rfl⟩
  rw [← hb] at hA
  rw [← hb]
  have HK51 := hid (HK50.out.below hB)
  have HQ51 := hid (PA.mk [⟨parV [64] [] true [], none, 0, none⟩] hA rfl (by
    intro x hx
    simp only [List.mem_cons, List.not_mem_nil, or_false] at hx
    rcases hx with rfl
    · exact ⟨PA.nil _ _, rfl⟩))
  clear hA hB hb hW HK50
  refine (par_any [122] [61] false (some ⟨b51, 0, none⟩) 1 1 _).mono ?_
  rintro e w52 ⟨rfl, hB⟩
  have HK52 := hid (HK51.out.below hB)
  have HP52_b51 := hid (HQ51.out.below hB)
  clear HQ51
  clear hB HK51
  go_wp2_with fail
  refine (par_any [122] [] true none 0 0 _).mono ?_
  rintro e w53 ⟨rfl, hB⟩
  have HK53 := hid (HK52.out.below hB)
  have HP53_b51 := hid (HP52_b51.out.below hB)
  clear HP52_b51
  clear hB HK52
  go_wp2_with fail
  obtain ⟨W54, hW⟩ : ∃ V, V = w53.alloc (.cells #[.int .i64 2, .string ⟨#[122]⟩, .string ⟨#[61]⟩, .bool false, .slice (some ⟨b51, 0, none⟩) 1 1, .pointer none, .int .i64 2, .string ⟨#[122]⟩, .string ⟨#[]⟩, .bool true, .slice none 0 0, .pointer none] 47) := ⟨_, rfl⟩
  have hA : At W54 w53.heap.size 47 #[.int .i64 2, .string ⟨#[122]⟩, .string ⟨#[61]⟩, .bool false, .slice (some ⟨b51, 0, none⟩) 1 1, .pointer none, .int .i64 2, .string ⟨#[122]⟩, .string ⟨#[]⟩, .bool true, .slice none 0 0, .pointer none] := by rw [hW]; exact heap_alloc_new w53 _
  have hB : Below w53.heap.size w53 W54 := by rw [hW]; exact (Below.refl _ _).alloc (Nat.le_refl _) _
  rw [← hW]
  obtain ⟨b54, hb⟩ : ∃ b, b = w53.heap.size := ⟨_, rfl⟩
  rw [← hb] at hA
  rw [← hb]
  have HK54 := hid (HK53.out.below hB)
  have HP54_b51 := hid (HP53_b51.out.below hB)
  clear HP53_b51
  have HQ54 := hid (PA.mk [⟨parV [122] [61] false [parV [64] [] true []], some ⟨b51, 0, none⟩, 1, none⟩, ⟨parV [122] [] true [], none, 0, none⟩] hA rfl (by
    intro x hx
    simp only [List.mem_cons, List.not_mem_nil, or_false] at hx
    rcases hx with rfl | rfl
    · exact ⟨HP54_b51.out, rfl⟩
    · exact ⟨PA.nil _ _, rfl⟩))
  clear HP54_b51
  clear hA hB hb hW HK53
  have HKr54 := hid (HK54.out.snoc HQ54.out)
  clear HQ54 HK54
  refine (par_any [64] [] true none 0 0 _).mono ?_
  rintro e w55 ⟨rfl, hB⟩
  have HK55 := hid (HKr54.out.below hB)
  clear hB HKr54
  go_wp2_with fail
  refine (quo_any [101] _).mono ?_
  rintro e w56 ⟨rfl, hB⟩
  have HK56 := hid (HK55.out.below hB)
  clear hB HK55
  go_wp2_with fail
  obtain ⟨W57, hW⟩ : ∃ V, V = w56.alloc (.cells #[.int .i64 2, .string ⟨#[64]⟩, .string ⟨#[]⟩, .bool true, .slice none 0 0, .pointer none, .int .i64 1, .string ⟨#[101]⟩, .string ⟨#[]⟩, .bool true, .slice none 0 0, .pointer none] 47) := ⟨_, rfl⟩
  have hA : At W57 w56.heap.size 47 #[.int .i64 2, .string ⟨#[64]⟩, .string ⟨#[]⟩, .bool true, .slice none 0 0, .pointer none, .int .i64 1, .string ⟨#[101]⟩, .string ⟨#[]⟩, .bool true, .slice none 0 0, .pointer none] := by rw [hW]; exact heap_alloc_new w56 _
  have hB : Below w56.heap.size w56 W57 := by rw [hW]; exact (Below.refl _ _).alloc (Nat.le_refl _) _
  rw [← hW]
  obtain ⟨b57, hb⟩ : ∃ b, b = w56.heap.size := ⟨_, rfl⟩
  rw [← hb] at hA
  rw [← hb]
  have HK57 := hid (HK56.out.below hB)
  have HQ57 := hid (PA.mk [⟨parV [64] [] true [], none, 0, none⟩, ⟨quoV [101], none, 0, none⟩] hA rfl (by
    intro x hx
    simp only [List.mem_cons, List.not_mem_nil, or_false] at hx
    rcases hx with rfl | rfl
    · exact ⟨PA.nil _ _, rfl⟩
    · exact ⟨PA.nil _ _, rfl⟩))
  clear hA hB hb hW HK56
  refine (par_any [122] [58, 45] true (some ⟨b57, 0, none⟩) 2 2 _).mono ?_
  rintro e w58 ⟨rfl, hB⟩
  have HK58 := hid (HK57.out.below hB)
  have HP58_b57 := hid (HQ57.out.below hB)
  clear HQ57
  clear hB HK57
  go_wp2_with fail
  obtain ⟨W59, hW⟩ : ∃ V, V = w58.alloc (.cells #[.int .i64 2, .string ⟨#[122]⟩, .string ⟨#[58, 45]⟩, .bool true, .slice (some ⟨b57, 0, none⟩) 2 2, .pointer none] 47) := ⟨_, rfl⟩
  have hA : At W59 w58.heap.size 47 #[.int .i64 2, .string ⟨#[122]⟩, .string ⟨#[58, 45]⟩, .bool true, .slice (some ⟨b57, 0, none⟩) 2 2, .pointer none] := by rw [hW]; exact heap_alloc_new w58 _
  have hB : Below w58.heap.size w58 W59 := by rw [hW]; exact (Below.refl _ _).alloc (Nat.le_refl _) _
  rw [← hW]
  obtain ⟨b59, hb⟩ : ∃ b, b = w58.heap.size := ⟨_, rfl⟩
  rw [← hb] at hA
  rw [← hb]
  have HK59 := hid (HK58.out.below hB)
  have HP59_b57 := hid (HP58_b57.out.below hB)
  clear HP58_b57
  have HQ59 := hid (PA.mk [⟨parV [122] [58, 45] true [parV [64] [] true [], quoV [101]], some ⟨b57, 0, none⟩, 2, none⟩] hA rfl (by
    intro x hx
    simp only [List.mem_cons, List.not_mem_nil, or_false] at hx
    rcases hx with rfl
    · exact ⟨HP59_b57.out, rfl⟩))
  clear HP59_b57
  clear hA hB hb hW HK58
  have HKr59 := hid (HK59.out.snoc HQ59.out)
  clear HQ59 HK59
  refine (par_any [122] [63] false none 0 0 _).mono ?_
  rintro e w60 ⟨rfl, hB⟩
  have HK60 := hid (HKr59.out.below hB)
  clear hB HKr59
  go_wp2_with fail
  obtain ⟨W61, hW⟩ : ∃ V, V = w60.alloc (.cells #[.int .i64 2, .string ⟨#[122]⟩, .string ⟨#[63]⟩, .bool false, .slice none 0 0, .pointer none] 47) := ⟨_, rfl⟩
  have hA : At W61 w60.heap.size 47 #[.int .i64 2, .string ⟨#[122]⟩, .string ⟨#[63]⟩, .bool false, .slice none 0 0, .pointer none] := by rw [hW]; exact heap_alloc_new w60 _
  have hB : Below w60.heap.size w60 W61 := by rw [hW]; exact (Below.refl _ _).alloc (Nat.le_refl _) _
  rw [← hW]
  obtain ⟨b61, hb⟩ : ∃ b, b = w60.heap.size := ⟨_, rfl⟩
  rw [← hb] at hA
  rw [← hb]
  have HK61 := hid (HK60.out.below hB)
  have HQ61 := hid (PA.mk [⟨parV [122] [63] false [], none, 0, none⟩] hA rfl (by
    intro x hx
    simp only [List.mem_cons, List.not_mem_nil, or_false] at hx
    rcases hx with rfl
    · exact ⟨PA.nil _ _, rfl⟩))
  clear hA hB hb hW HK60
  have HKr61 := hid (HK61.out.snoc HQ61.out)
  clear HQ61 HK61
  refine (par_any [121] [58, 63] false none 0 0 _).mono ?_
  rintro e w62 ⟨rfl, hB⟩
  have HK62 := hid (HKr61.out.below hB)
  clear hB HKr61
  go_wp2_with fail
  obtain ⟨W63, hW⟩ : ∃ V, V = w62.alloc (.cells #[.int .i64 2, .string ⟨#[121]⟩, .string ⟨#[58, 63]⟩, .bool false, .slice none 0 0, .pointer none] 47) := ⟨_, rfl⟩
  have hA : At W63 w62.heap.size 47 #[.int .i64 2, .string ⟨#[121]⟩, .string ⟨#[58, 63]⟩, .bool false, .slice none 0 0, .pointer none] := by rw [hW]; exact heap_alloc_new w62 _
  have hB : Below w62.heap.size w62 W63 := by rw [hW]; exact (Below.refl _ _).alloc (Nat.le_refl _) _
  rw [← hW]
  obtain ⟨b63, hb⟩ : ∃ b, b = w62.heap.size := ⟨_, rfl⟩
  rw [← hb] at hA
  rw [← hb]
  have HK63 := hid (HK62.out.below hB)
  have HQ63 := hid (PA.mk [⟨parV [121] [58, 63] false [], none, 0, none⟩] hA rfl (by
    intro x hx
    simp only [List.mem_cons, List.not_mem_nil, or_false] at hx
    rcases hx with rfl
    · exact ⟨PA.nil _ _, rfl⟩))
  clear hA hB hb hW HK62
  have HKr63 := hid (HK63.out.snoc HQ63.out)
  clear HQ63 HK63
  refine (par_any [121] [63] false none 0 0 _).mono ?_
  rintro e w64 ⟨rfl, hB⟩
  have HK64 := hid (HKr63.out.below hB)
  clear hB HKr63
  go_wp2_with fail
  obtain ⟨W65, hW⟩ : ∃ V, V = w64.alloc (.cells #[.int .i64 2, .string ⟨#[121]⟩, .string ⟨#[63]⟩, .bool false, .slice none 0 0, .pointer none] 47) := ⟨_, rfl⟩
  have hA : At W65 w64.heap.size 47 #[.int .i64 2, .string ⟨#[121]⟩, .string ⟨#[63]⟩, .bool false, .slice none 0 0, .pointer none] := by rw [hW]; exact heap_alloc_new w64 _
  have hB : Below w64.heap.size w64 W65 := by rw [hW]; exact (Below.refl _ _).alloc (Nat.le_refl _) _
  rw [← hW]
  obtain ⟨b65, hb⟩ : ∃ b, b = w64.heap.size := ⟨_, rfl⟩
  rw [← hb] at hA
  rw [← hb]
  have HK65 := hid (HK64.out.below hB)
  have HQ65 := hid (PA.mk [⟨parV [121] [63] false [], none, 0, none⟩] hA rfl (by
    intro x hx
    simp only [List.mem_cons, List.not_mem_nil, or_false] at hx
    rcases hx with rfl
    · exact ⟨PA.nil _ _, rfl⟩))
  clear hA hB hb hW HK64
  have HKr65 := hid (HK65.out.snoc HQ65.out)
  clear HQ65 HK65
  refine (litp_any [107] _).mono ?_
  rintro e w66 ⟨rfl, hB⟩
  have HK66 := hid (HKr65.out.below hB)
  clear hB HKr65
  go_wp2_with fail
  obtain ⟨W67, hW⟩ : ∃ V, V = w66.alloc (.cells #[.int .i64 0, .string ⟨#[107]⟩, .string ⟨#[]⟩, .bool false, .slice none 0 0, .pointer none] 47) := ⟨_, rfl⟩
  have hA : At W67 w66.heap.size 47 #[.int .i64 0, .string ⟨#[107]⟩, .string ⟨#[]⟩, .bool false, .slice none 0 0, .pointer none] := by rw [hW]; exact heap_alloc_new w66 _
  have hB : Below w66.heap.size w66 W67 := by rw [hW]; exact (Below.refl _ _).alloc (Nat.le_refl _) _
  rw [← hW]
  obtain ⟨b67, hb⟩ : ∃ b, b = w66.heap.size := ⟨_, rfl⟩
  rw [← hb] at hA
  rw [← hb]
  have HK67 := hid (HK66.out.below hB)
  have HQ67 := hid (PA.mk [⟨litV [107], none, 0, none⟩] hA rfl (by
    intro x hx
    simp only [List.mem_cons, List.not_mem_nil, or_false] at hx
    rcases hx with rfl
    · exact ⟨PA.nil _ _, rfl⟩))
  clear hA hB hb hW HK66
  refine (par_any [49] [61] false (some ⟨b67, 0, none⟩) 1 1 _).mono ?_
  rintro e w68 ⟨rfl, hB⟩
  have HK68 := hid (HK67.out.below hB)
  have HP68_b67 := hid (HQ67.out.below hB)
  clear HQ67
  clear hB HK67
  go_wp2_with fail
  obtain ⟨W69, hW⟩ : ∃ V, V = w68.alloc (.cells #[.int .i64 2, .string ⟨#[49]⟩, .string ⟨#[61]⟩, .bool false, .slice (some ⟨b67, 0, none⟩) 1 1, .pointer none] 47) := ⟨_, rfl⟩
  have hA : At W69 w68.heap.size 47 #[.int .i64 2, .string ⟨#[49]⟩, .string ⟨#[61]⟩, .bool false, .slice (some ⟨b67, 0, none⟩) 1 1, .pointer none] := by rw [hW]; exact heap_alloc_new w68 _
  have hB : Below w68.heap.size w68 W69 := by rw [hW]; exact (Below.refl _ _).alloc (Nat.le_refl _) _
  rw [← hW]
  obtain ⟨b69, hb⟩ : ∃ b, b = w68.heap.size := ⟨_, rfl⟩
  rw [← hb] at hA
  rw [← hb]
  have HK69 := hid (HK68.out.below hB)
  have HP69_b67 := hid (HP68_b67.out.below hB)
  clear HP68_b67
  have HQ69 := hid (PA.mk [⟨parV [49] [61] false [litV [107]], some ⟨b67, 0, none⟩, 1, none⟩] hA rfl (by
    intro x hx
    simp only [List.mem_cons, List.not_mem_nil, or_false] at hx
    rcases hx with rfl
    · exact ⟨HP69_b67.out, rfl⟩))
  clear HP69_b67
  clear hA hB hb hW HK68
  have HKr69 := hid (HK69.out.snoc HQ69.out)
  clear HQ69 HK69
  refine (litp_any [107] _).mono ?_
  rintro e w70 ⟨rfl, hB⟩
  have HK70 := hid (HKr69.out.below hB)
  clear hB HKr69
  go_wp2_with fail
  obtain ⟨W71, hW⟩ : ∃ V, V = w70.alloc (.cells #[.int .i64 0, .string ⟨#[107]⟩, .string ⟨#[]⟩, .bool false, .slice none 0 0, .pointer none] 47) := ⟨_, rfl⟩
  have hA : At W71 w70.heap.size 47 #[.int .i64 0, .string ⟨#[107]⟩, .string ⟨#[]⟩, .bool false, .slice none 0 0, .pointer none] := by rw [hW]; exact heap_alloc_new w70 _
  have hB : Below w70.heap.size w70 W71 := by rw [hW]; exact (Below.refl _ _).alloc (Nat.le_refl _) _
  rw [← hW]
  obtain ⟨b71, hb⟩ : ∃ b, b = w70.heap.size := ⟨_, rfl⟩
  rw [← hb] at hA
  rw [← hb]
  have HK71 := hid (HK70.out.below hB)
  have HQ71 := hid (PA.mk [⟨litV [107], none, 0, none⟩] hA rfl (by
    intro x hx
    simp only [List.mem_cons, List.not_mem_nil, or_false] at hx
    rcases hx with rfl
    · exact ⟨PA.nil _ _, rfl⟩))
  clear hA hB hb hW HK70
  refine (par_any [57] [61] false (some ⟨b71, 0, none⟩) 1 1 _).mono ?_
  rintro e w72 ⟨rfl, hB⟩
  have HK72 := hid (HK71.out.below hB)
  have HP72_b71 := hid (HQ71.out.below hB)
  clear HQ71
  clear hB HK71
  go_wp2_with fail
  obtain ⟨W73, hW⟩ : ∃ V, V = w72.alloc (.cells #[.int .i64 2, .string ⟨#[57]⟩, .string ⟨#[61]⟩, .bool false, .slice (some ⟨b71, 0, none⟩) 1 1, .pointer none] 47) := ⟨_, rfl⟩
  have hA : At W73 w72.heap.size 47 #[.int .i64 2, .string ⟨#[57]⟩, .string ⟨#[61]⟩, .bool false, .slice (some ⟨b71, 0, none⟩) 1 1, .pointer none] := by rw [hW]; exact heap_alloc_new w72 _
  have hB : Below w72.heap.size w72 W73 := by rw [hW]; exact (Below.refl _ _).alloc (Nat.le_refl _) _
  rw [← hW]
  obtain ⟨b73, hb⟩ : ∃ b, b = w72.heap.size := ⟨_, rfl⟩
  rw [← hb] at hA
  rw [← hb]
  have HK73 := hid (HK72.out.below hB)
  have HP73_b71 := hid (HP72_b71.out.below hB)
  clear HP72_b71
  have HQ73 := hid (PA.mk [⟨parV [57] [61] false [litV [107]], some ⟨b71, 0, none⟩, 1, none⟩] hA rfl (by
    intro x hx
    simp only [List.mem_cons, List.not_mem_nil, or_false] at hx
    rcases hx with rfl
    · exact ⟨HP73_b71.out, rfl⟩))
  clear HP73_b71
  clear hA hB hb hW HK72
  have HKr73 := hid (HK73.out.snoc HQ73.out)
  clear HQ73 HK73
  refine (par_any [120] [33] false none 0 0 _).mono ?_
  rintro e w74 ⟨rfl, hB⟩
  have HK74 := hid (HKr73.out.below hB)
  clear hB HKr73
  go_upto_block 0 with fail
  obtain ⟨b75, hb⟩ : ∃ b, b = w74.heap.size := ⟨_, rfl⟩
  rw [← hb]
  obtain ⟨V0, hV0⟩ : ∃ V, V = w74.alloc (.cells #[.int .i64 2, .string ⟨#[120]⟩, .string ⟨#[33]⟩, .bool false, .slice none 0 0, .pointer none] 47) := ⟨_, rfl⟩
  rw [← hV0]
  have hA0 : At V0 (b75) 47 #[.int .i64 2, .string ⟨#[120]⟩, .string ⟨#[33]⟩, .bool false, .slice none 0 0, .pointer none] := by
    have h := heap_alloc_new w74 (.cells #[.int .i64 2, .string ⟨#[120]⟩, .string ⟨#[33]⟩, .bool false, .slice none 0 0, .pointer none] 47)
    rw [← hV0, hb.symm] at h
    exact h
  have hs1 : V0.heap.size = b75 + 1 := by rw [hV0, World.size_alloc, hb.symm]
  have hB0 : Below w74.heap.size w74 V0 := by rw [hV0]; exact (Below.refl _ _).alloc (Nat.le_refl _) _
  obtain ⟨V1, hV1⟩ : ∃ V, V = V0.alloc (.cells #[.int .i64 4, .string ⟨#[]⟩, .string ⟨#[]⟩, .bool false, .slice none 0 0, .pointer none] 47) := ⟨_, rfl⟩
  rw [← hV1]
  have hA1 : At V1 (b75 + 1) 47 #[.int .i64 4, .string ⟨#[]⟩, .string ⟨#[]⟩, .bool false, .slice none 0 0, .pointer none] := by
    have h := heap_alloc_new V0 (.cells #[.int .i64 4, .string ⟨#[]⟩, .string ⟨#[]⟩, .bool false, .slice none 0 0, .pointer none] 47)
    rw [← hV1, hs1] at h
    exact h
  have hs2 : V1.heap.size = b75 + 1 + 1 := by rw [hV1, World.size_alloc, hs1]
  have hB1 : Below V0.heap.size V0 V1 := by rw [hV1]; exact (Below.refl _ _).alloc (Nat.le_refl _) _
  obtain ⟨V2, hV2⟩ : ∃ V, V = V1.alloc (.cells #[.int .i64 0, .string ⟨#[111, 32, 107]⟩, .bool false, .slice none 0 0, .slice none 0 0, .slice none 0 0, .slice none 0 0, .slice none 0 0, .bool false] 60) := ⟨_, rfl⟩
  rw [← hV2]
  have hA2 : At V2 (b75 + 1 + 1) 60 #[.int .i64 0, .string ⟨#[111, 32, 107]⟩, .bool false, .slice none 0 0, .slice none 0 0, .slice none 0 0, .slice none 0 0, .slice none 0 0, .bool false] := by
    have h := heap_alloc_new V1 (.cells #[.int .i64 0, .string ⟨#[111, 32, 107]⟩, .bool false, .slice none 0 0, .slice none 0 0, .slice none 0 0, .slice none 0 0, .slice none 0 0, .bool false] 60)
    rw [← hV2, hs2] at h
    exact h
  have hs3 : V2.heap.size = b75 + 1 + 1 + 1 := by rw [hV2, World.size_alloc, hs2]
  have hB2 : Below V1.heap.size V1 V2 := by rw [hV2]; exact (Below.refl _ _).alloc (Nat.le_refl _) _
  obtain ⟨V3, hV3⟩ : ∃ V, V = V2.alloc (.cells #[.int .i64 0, .string ⟨#[111, 32, 107]⟩, .bool false, .slice none 0 0, .slice none 0 0, .slice none 0 0, .slice none 0 0, .slice none 0 0, .bool false] 60) := ⟨_, rfl⟩
  rw [← hV3]
  have hA3 : At V3 (b75 + 1 + 1 + 1) 60 #[.int .i64 0, .string ⟨#[111, 32, 107]⟩, .bool false, .slice none 0 0, .slice none 0 0, .slice none 0 0, .slice none 0 0, .slice none 0 0, .bool false] := by
    have h := heap_alloc_new V2 (.cells #[.int .i64 0, .string ⟨#[111, 32, 107]⟩, .bool false, .slice none 0 0, .slice none 0 0, .slice none 0 0, .slice none 0 0, .slice none 0 0, .bool false] 60)
    rw [← hV3, hs3] at h
    exact h
  have hs4 : V3.heap.size = b75 + 1 + 1 + 1 + 1 := by rw [hV3, World.size_alloc, hs3]
  have hB3 : Below V2.heap.size V2 V3 := by rw [hV3]; exact (Below.refl _ _).alloc (Nat.le_refl _) _
  obtain ⟨V4, hV4⟩ : ∃ V, V = V3.alloc (.cells #[.int .i64 3, .string ⟨#[]⟩, .string ⟨#[]⟩, .bool false, .slice none 0 0, .pointer (some ⟨b75 + 1 + 1, 0, none⟩), .int .i64 3, .string ⟨#[]⟩, .string ⟨#[]⟩, .bool true, .slice none 0 0, .pointer (some ⟨b75 + 1 + 1 + 1, 0, none⟩), .int .i64 3, .string ⟨#[]⟩, .string ⟨#[]⟩, .bool false, .slice none 0 0, .pointer none] 47) := ⟨_, rfl⟩
  rw [← hV4]
  have hA4 : At V4 (b75 + 1 + 1 + 1 + 1) 47 #[.int .i64 3, .string ⟨#[]⟩, .string ⟨#[]⟩, .bool false, .slice none 0 0, .pointer (some ⟨b75 + 1 + 1, 0, none⟩), .int .i64 3, .string ⟨#[]⟩, .string ⟨#[]⟩, .bool true, .slice none 0 0, .pointer (some ⟨b75 + 1 + 1 + 1, 0, none⟩), .int .i64 3, .string ⟨#[]⟩, .string ⟨#[]⟩, .bool false, .slice none 0 0, .pointer none] := by
    have h := heap_alloc_new V3 (.cells #[.int .i64 3, .string ⟨#[]⟩, .string ⟨#[]⟩, .bool false, .slice none 0 0, .pointer (some ⟨b75 + 1 + 1, 0, none⟩), .int .i64 3, .string ⟨#[]⟩, .string ⟨#[]⟩, .bool true, .slice none 0 0, .pointer (some ⟨b75 + 1 + 1 + 1, 0, none⟩), .int .i64 3, .string ⟨#[]⟩, .string ⟨#[]⟩, .bool false, .slice none 0 0, .pointer none] 47)
    rw [← hV4, hs4] at h
    exact h
  have hs5 : V4.heap.size = b75 + 1 + 1 + 1 + 1 + 1 := by rw [hV4, World.size_alloc, hs4]
  have hB4 : Below V3.heap.size V3 V4 := by rw [hV4]; exact (Below.refl _ _).alloc (Nat.le_refl _) _
  obtain ⟨V5, hV5⟩ : ∃ V, V = V4.alloc (.cells #[.int .i64 0, .string ⟨#[]⟩, .bool true, .slice none 0 0, .slice none 0 0, .slice none 0 0, .slice none 0 0, .slice none 0 0, .bool false] 60) := ⟨_, rfl⟩
  rw [← hV5]
  have hA5 : At V5 (b75 + 1 + 1 + 1 + 1 + 1) 60 #[.int .i64 0, .string ⟨#[]⟩, .bool true, .slice none 0 0, .slice none 0 0, .slice none 0 0, .slice none 0 0, .slice none 0 0, .bool false] := by
    have h := heap_alloc_new V4 (.cells #[.int .i64 0, .string ⟨#[]⟩, .bool true, .slice none 0 0, .slice none 0 0, .slice none 0 0, .slice none 0 0, .slice none 0 0, .bool false] 60)
    rw [← hV5, hs5] at h
    exact h
  have hs6 : V5.heap.size = b75 + 1 + 1 + 1 + 1 + 1 + 1 := by rw [hV5, World.size_alloc, hs5]
  have hB5 : Below V4.heap.size V4 V5 := by rw [hV5]; exact (Below.refl _ _).alloc (Nat.le_refl _) _
  obtain ⟨V6, hV6⟩ : ∃ V, V = V5.alloc (.cells #[.int .i64 3, .string ⟨#[]⟩, .string ⟨#[]⟩, .bool false, .slice none 0 0, .pointer (some ⟨b75 + 1 + 1 + 1 + 1 + 1, 0, none⟩)] 47) := ⟨_, rfl⟩
  rw [← hV6]
  have hA6 : At V6 (b75 + 1 + 1 + 1 + 1 + 1 + 1) 47 #[.int .i64 3, .string ⟨#[]⟩, .string ⟨#[]⟩, .bool false, .slice none 0 0, .pointer (some ⟨b75 + 1 + 1 + 1 + 1 + 1, 0, none⟩)] := by
    have h := heap_alloc_new V5 (.cells #[.int .i64 3, .string ⟨#[]⟩, .string ⟨#[]⟩, .bool false, .slice none 0 0, .pointer (some ⟨b75 + 1 + 1 + 1 + 1 + 1, 0, none⟩)] 47)
    rw [← hV6, hs6] at h
    exact h
  have hs7 : V6.heap.size = b75 + 1 + 1 + 1 + 1 + 1 + 1 + 1 := by rw [hV6, World.size_alloc, hs6]
  have hB6 : Below V5.heap.size V5 V6 := by rw [hV6]; exact (Below.refl _ _).alloc (Nat.le_refl _) _
  obtain ⟨V7, hV7⟩ : ∃ V, V = V6.alloc (.cells (List.toArray (.slice none 0 0 :: .string ⟨#[91, 93]⟩ :: .slice (some ⟨b3, 0, none⟩) 1 1 :: .string ⟨#[91, 40, 49, 41, 93, 91, 40, 50, 32, 51, 41, 93]⟩ :: .slice (some ⟨b6, 0, none⟩) 2 2 :: .string ⟨#[91, 39, 97, 39, 39, 49, 39, 93, 91, 39, 50, 32, 51, 39, 93]⟩ :: .slice (some ⟨b8, 0, none⟩) 1 1 :: .string ⟨#[91, 39, 49, 32, 50, 32, 51, 39, 93]⟩ :: .slice (some ⟨b12, 0, none⟩) 1 1 :: .string ⟨#[91, 40, 113, 32, 114, 41, 93]⟩ :: .slice (some ⟨b16, 0, none⟩) 1 1 :: .string ⟨#[91, 40, 41, 93]⟩ :: .slice (some ⟨b20, 0, none⟩) 1 1 :: .string ⟨#[91, 93]⟩ :: .slice (some ⟨b24, 0, none⟩) 1 1 :: .string ⟨#[91, 39, 113, 39, 93]⟩ :: .slice (some ⟨b28, 0, none⟩) 1 1 :: .string ⟨#[91, 40, 32, 98, 41, 93]⟩ :: .slice (some ⟨b32, 0, none⟩) 1 1 :: .string ⟨#[91, 40, 41, 93]⟩ :: .slice (some ⟨b36, 0, none⟩) 1 1 :: .string ⟨#[91, 40, 97, 41, 93]⟩ :: .slice (some ⟨b38, 0, none⟩) 1 1 :: .string ⟨#[91, 40, 51, 41, 93]⟩ :: .slice (some ⟨b42, 0, none⟩) 3 3 :: .string ⟨#[91, 39, 50, 39, 40, 50, 41, 40, 55, 41, 93]⟩ :: .slice (some ⟨b49, 0, none⟩) 4 4 :: .string ⟨#[91, 40, 49, 41, 39, 50, 32, 51, 39, 40, 41, 40, 107, 41, 93]⟩ :: .slice (some ⟨b54, 0, none⟩) 2 2 :: .string ⟨#[91, 40, 49, 32, 50, 32, 51, 41, 39, 49, 32, 50, 32, 51, 39, 93]⟩ :: .slice (some ⟨b59, 0, none⟩) 1 1 :: .string ⟨#[91, 39, 49, 39, 93, 91, 39, 50, 32, 51, 39, 39, 101, 39, 93]⟩ :: .slice (some ⟨b61, 0, none⟩) 1 1 :: .string ⟨#[33, 99]⟩ :: .slice (some ⟨b63, 0, none⟩) 1 1 :: .string ⟨#[33, 99]⟩ :: .slice (some ⟨b65, 0, none⟩) 1 1 :: .string ⟨#[91, 40, 41, 93]⟩ :: .slice (some ⟨b69, 0, none⟩) 1 1 :: .string ⟨#[91, 40, 49, 41, 93]⟩ :: .slice (some ⟨b73, 0, none⟩) 1 1 :: .string ⟨#[33, 99]⟩ :: .slice (some ⟨b75, 0, none⟩) 1 1 :: .string ⟨#[33, 99]⟩ :: .slice (some ⟨b75 + 1, 0, none⟩) 1 1 :: .string ⟨#[33, 99]⟩ :: .slice (some ⟨b75 + 1 + 1 + 1 + 1, 0, none⟩) 3 3 :: .string ⟨#[91, 40, 111, 32, 107, 41, 39, 111, 32, 107, 39, 40, 41, 93]⟩ :: .slice (some ⟨b75 + 1 + 1 + 1 + 1 + 1 + 1, 0, none⟩) 1 1 :: .string ⟨#[33, 111]⟩ :: [])) 53) := ⟨_, rfl⟩
  rw [← hV7]
  have hA7 : At V7 (b75 + 1 + 1 + 1 + 1 + 1 + 1 + 1) 53 (List.toArray (.slice none 0 0 :: .string ⟨#[91, 93]⟩ :: .slice (some ⟨b3, 0, none⟩) 1 1 :: .string ⟨#[91, 40, 49, 41, 93, 91, 40, 50, 32, 51, 41, 93]⟩ :: .slice (some ⟨b6, 0, none⟩) 2 2 :: .string ⟨#[91, 39, 97, 39, 39, 49, 39, 93, 91, 39, 50, 32, 51, 39, 93]⟩ :: .slice (some ⟨b8, 0, none⟩) 1 1 :: .string ⟨#[91, 39, 49, 32, 50, 32, 51, 39, 93]⟩ :: .slice (some ⟨b12, 0, none⟩) 1 1 :: .string ⟨#[91, 40, 113, 32, 114, 41, 93]⟩ :: .slice (some ⟨b16, 0, none⟩) 1 1 :: .string ⟨#[91, 40, 41, 93]⟩ :: .slice (some ⟨b20, 0, none⟩) 1 1 :: .string ⟨#[91, 93]⟩ :: .slice (some ⟨b24, 0, none⟩) 1 1 :: .string ⟨#[91, 39, 113, 39, 93]⟩ :: .slice (some ⟨b28, 0, none⟩) 1 1 :: .string ⟨#[91, 40, 32, 98, 41, 93]⟩ :: .slice (some ⟨b32, 0, none⟩) 1 1 :: .string ⟨#[91, 40, 41, 93]⟩ :: .slice (some ⟨b36, 0, none⟩) 1 1 :: .string ⟨#[91, 40, 97, 41, 93]⟩ :: .slice (some ⟨b38, 0, none⟩) 1 1 :: .string ⟨#[91, 40, 51, 41, 93]⟩ :: .slice (some ⟨b42, 0, none⟩) 3 3 :: .string ⟨#[91, 39, 50, 39, 40, 50, 41, 40, 55, 41, 93]⟩ :: .slice (some ⟨b49, 0, none⟩) 4 4 :: .string ⟨#[91, 40, 49, 41, 39, 50, 32, 51, 39, 40, 41, 40, 107, 41, 93]⟩ :: .slice (some ⟨b54, 0, none⟩) 2 2 :: .string ⟨#[91, 40, 49, 32, 50, 32, 51, 41, 39, 49, 32, 50, 32, 51, 39, 93]⟩ :: .slice (some ⟨b59, 0, none⟩) 1 1 :: .string ⟨#[91, 39, 49, 39, 93, 91, 39, 50, 32, 51, 39, 39, 101, 39, 93]⟩ :: .slice (some ⟨b61, 0, none⟩) 1 1 :: .string ⟨#[33, 99]⟩ :: .slice (some ⟨b63, 0, none⟩) 1 1 :: .string ⟨#[33, 99]⟩ :: .slice (some ⟨b65, 0, none⟩) 1 1 :: .string ⟨#[91, 40, 41, 93]⟩ :: .slice (some ⟨b69, 0, none⟩) 1 1 :: .string ⟨#[91, 40, 49, 41, 93]⟩ :: .slice (some ⟨b73, 0, none⟩) 1 1 :: .string ⟨#[33, 99]⟩ :: .slice (some ⟨b75, 0, none⟩) 1 1 :: .string ⟨#[33, 99]⟩ :: .slice (some ⟨b75 + 1, 0, none⟩) 1 1 :: .string ⟨#[33, 99]⟩ :: .slice (some ⟨b75 + 1 + 1 + 1 + 1, 0, none⟩) 3 3 :: .string ⟨#[91, 40, 111, 32, 107, 41, 39, 111, 32, 107, 39, 40, 41, 93]⟩ :: .slice (some ⟨b75 + 1 + 1 + 1 + 1 + 1 + 1, 0, none⟩) 1 1 :: .string ⟨#[33, 111]⟩ :: [])) := by
    have h := heap_alloc_new V6 (.cells (List.toArray (.slice none 0 0 :: .string ⟨#[91, 93]⟩ :: .slice (some ⟨b3, 0, none⟩) 1 1 :: .string ⟨#[91, 40, 49, 41, 93, 91, 40, 50, 32, 51, 41, 93]⟩ :: .slice (some ⟨b6, 0, none⟩) 2 2 :: .string ⟨#[91, 39, 97, 39, 39, 49, 39, 93, 91, 39, 50, 32, 51, 39, 93]⟩ :: .slice (some ⟨b8, 0, none⟩) 1 1 :: .string ⟨#[91, 39, 49, 32, 50, 32, 51, 39, 93]⟩ :: .slice (some ⟨b12, 0, none⟩) 1 1 :: .string ⟨#[91, 40, 113, 32, 114, 41, 93]⟩ :: .slice (some ⟨b16, 0, none⟩) 1 1 :: .string ⟨#[91, 40, 41, 93]⟩ :: .slice (some ⟨b20, 0, none⟩) 1 1 :: .string ⟨#[91, 93]⟩ :: .slice (some ⟨b24, 0, none⟩) 1 1 :: .string ⟨#[91, 39, 113, 39, 93]⟩ :: .slice (some ⟨b28, 0, none⟩) 1 1 :: .string ⟨#[91, 40, 32, 98, 41, 93]⟩ :: .slice (some ⟨b32, 0, none⟩) 1 1 :: .string ⟨#[91, 40, 41, 93]⟩ :: .slice (some ⟨b36, 0, none⟩) 1 1 :: .string ⟨#[91, 40, 97, 41, 93]⟩ :: .slice (some ⟨b38, 0, none⟩) 1 1 :: .string ⟨#[91, 40, 51, 41, 93]⟩ :: .slice (some ⟨b42, 0, none⟩) 3 3 :: .string ⟨#[91, 39, 50, 39, 40, 50, 41, 40, 55, 41, 93]⟩ :: .slice (some ⟨b49, 0, none⟩) 4 4 :: .string ⟨#[91, 40, 49, 41, 39, 50, 32, 51, 39, 40, 41, 40, 107, 41, 93]⟩ :: .slice (some ⟨b54, 0, none⟩) 2 2 :: .string ⟨#[91, 40, 49, 32, 50, 32, 51, 41, 39, 49, 32, 50, 32, 51, 39, 93]⟩ :: .slice (some ⟨b59, 0, none⟩) 1 1 :: .string ⟨#[91, 39, 49, 39, 93, 91, 39, 50, 32, 51, 39, 39, 101, 39, 93]⟩ :: .slice (some ⟨b61, 0, none⟩) 1 1 :: .string ⟨#[33, 99]⟩ :: .slice (some ⟨b63, 0, none⟩) 1 1 :: .string ⟨#[33, 99]⟩ :: .slice (some ⟨b65, 0, none⟩) 1 1 :: .string ⟨#[91, 40, 41, 93]⟩ :: .slice (some ⟨b69, 0, none⟩) 1 1 :: .string ⟨#[91, 40, 49, 41, 93]⟩ :: .slice (some ⟨b73, 0, none⟩) 1 1 :: .string ⟨#[33, 99]⟩ :: .slice (some ⟨b75, 0, none⟩) 1 1 :: .string ⟨#[33, 99]⟩ :: .slice (some ⟨b75 + 1, 0, none⟩) 1 1 :: .string ⟨#[33, 99]⟩ :: .slice (some ⟨b75 + 1 + 1 + 1 + 1, 0, none⟩) 3 3 :: .string ⟨#[91, 40, 111, 32, 107, 41, 39, 111, 32, 107, 39, 40, 41, 93]⟩ :: .slice (some ⟨b75 + 1 + 1 + 1 + 1 + 1 + 1, 0, none⟩) 1 1 :: .string ⟨#[33, 111]⟩ :: [])) 53)
    rw [← hV7, hs7] at h
    exact h
  have hs8 : V7.heap.size = b75 + 1 + 1 + 1 + 1 + 1 + 1 + 1 + 1 := by rw [hV7, World.size_alloc, hs7]
  have hB7 : Below V6.heap.size V6 V7 := by rw [hV7]; exact (Below.refl _ _).alloc (Nat.le_refl _) _
  clear hV0 hV1 hV2 hV3 hV4 hV5 hV6 hV7
  have hb7 : Below V6.heap.size V6 V7 := hB7
  have hb6 : Below V5.heap.size V5 V7 := hB6.trans (hb7.mono hB6.size)
  have hb5 : Below V4.heap.size V4 V7 := hB5.trans (hb6.mono hB5.size)
  have hb4 : Below V3.heap.size V3 V7 := hB4.trans (hb5.mono hB4.size)
  have hb3 : Below V2.heap.size V2 V7 := hB3.trans (hb4.mono hB3.size)
  have hb2 : Below V1.heap.size V1 V7 := hB2.trans (hb3.mono hB2.size)
  have hb1 : Below V0.heap.size V0 V7 := hB1.trans (hb2.mono hB1.size)
  have hb0 : Below w74.heap.size w74 V7 := hB0.trans (hb1.mono hB0.size)
  have p21 := PA.mk [⟨parV [120] [33] false [], none, 0, none⟩] (hA0.below hb1 hA0.lt) rfl (by
    intro x hx
    simp only [List.mem_cons, List.not_mem_nil, or_false] at hx
    rcases hx with rfl
    exact ⟨PA.nil _ _, rfl⟩)
  have p22 := PA.mk [⟨.mk 4 [] [] false [] none, none, 0, none⟩] (hA1.below hb2 hA1.lt) rfl (by
    intro x hx
    simp only [List.mem_cons, List.not_mem_nil, or_false] at hx
    rcases hx with rfl
    exact ⟨PA.nil _ _, rfl⟩)
  have p23 := PA.mk [⟨subV false (some (cmdV [111, 32, 107] false)), none, 0, some ⟨b75 + 1 + 1, 0, none⟩⟩, ⟨subV true (some (cmdV [111, 32, 107] false)), none, 0, some ⟨b75 + 1 + 1 + 1, 0, none⟩⟩, ⟨subV false none, none, 0, none⟩] (hA4.below hb5 hA4.lt) rfl (by
    intro x hx
    simp only [List.mem_cons, List.not_mem_nil, or_false] at hx
    rcases hx with rfl | rfl | rfl
    · exact ⟨PA.nil _ _, _, rfl, _, _, (hA2.below hb3 hA2.lt), rfl, rfl⟩
    · exact ⟨PA.nil _ _, _, rfl, _, _, (hA3.below hb4 hA3.lt), rfl, rfl⟩
    · exact ⟨PA.nil _ _, rfl⟩)
  have p24 := PA.mk [⟨subV false (some (cmdV [] true)), none, 0, some ⟨b75 + 1 + 1 + 1 + 1 + 1, 0, none⟩⟩] (hA6.below hb7 hA6.lt) rfl (by
    intro x hx
    simp only [List.mem_cons, List.not_mem_nil, or_false] at hx
    rcases hx with rfl
    exact ⟨PA.nil _ _, _, rfl, _, _, (hA5.below hb6 hA5.lt), rfl, rfl⟩)
  have HKZ := hid (((((HK74.out.below hb0).snoc p21).snoc p22).snoc p23).snoc p24)
  obtain ⟨L3, hL3⟩ : ∃ L : List (Option Addr × (List PartV × Str)), L = [none, (some ⟨b3, 0, none⟩), (some ⟨b6, 0, none⟩), (some ⟨b8, 0, none⟩), (some ⟨b12, 0, none⟩), (some ⟨b16, 0, none⟩), (some ⟨b20, 0, none⟩), (some ⟨b24, 0, none⟩), (some ⟨b28, 0, none⟩), (some ⟨b32, 0, none⟩), (some ⟨b36, 0, none⟩), (some ⟨b38, 0, none⟩), (some ⟨b42, 0, none⟩), (some ⟨b49, 0, none⟩), (some ⟨b54, 0, none⟩), (some ⟨b59, 0, none⟩), (some ⟨b61, 0, none⟩), (some ⟨b63, 0, none⟩), (some ⟨b65, 0, none⟩), (some ⟨b69, 0, none⟩), (some ⟨b73, 0, none⟩), (some ⟨b75, 0, none⟩), (some ⟨b75 + 1, 0, none⟩), (some ⟨b75 + 1 + 1 + 1 + 1, 0, none⟩), (some ⟨b75 + 1 + 1 + 1 + 1 + 1 + 1, 0, none⟩)].zip rowsK := ⟨_, rfl⟩
  have HT1 : Hid (TabAt V7 (b75 + 1 + 1 + 1 + 1 + 1 + 1 + 1) L3) := hid ⟨by rw [hL3]; rfl, by rw [hL3]; rfl, ⟨_, hA7, by rw [hL3]; rfl⟩, words_of HKZ.out.words (by rw [hL3]; kernel_rfl)⟩
  have HK0 : Hid (Below w.heap.size w V7 ∧ At V7 vb 26 #[.slice AL 2 cL, .slice AA 2 cA, .int .i64 7] ∧ ∀ B, VarsAt V7 B (.agg #[.slice AL 2 cL, .slice AA 2 cA, .int .i64 7]) varsV) := hid ⟨HKZ.out.bel, HKZ.out.box, HKZ.out.vars⟩
  clear hb7 hb6 hb5 hb4 hb3 hb2 hb1 hb0 hB0 hB1 hB2 hB3 hB4 hB5 hB6 hB7 hA0 hA1 hA2 hA3 hA4 hA5 hA6 hA7 hs1 hs2 hs3 hs4 hs5 hs6 hs7 hs8 p21 p22 p23 p24 HKZ hL3 HK74
  refine known_loop w V7 vb (b75 + 1 + 1 + 1 + 1 + 1 + 1 + 1) cL cA AL AA L3 HK0 (hid (HT.out.below HK0.out.1)) HT1 _ ?_
  intro s0 s1 s2 s3 s4 s5 s6 s7 s8 s9 s10 s11 s12 s13 s14 s15 s16 s17 s18 s19 s20 s21 s22 s23 s24 s25 s26 s27 s28 s29 s30 s31 s32 s33 s34 s35 s36 s37 s38 s39 s40 s41 s42 s43 s44 s45 s46 s47 s48 s49 s50 s51 s52 s53 s54 s55 s56 s57 s58 s59 s60 s61 s62 s63 s64 s65 s66 s67 s68 s69 s70 s71 s72 s73 s74 s75 s76 s77 s78 s79 s80 s81 s82 s83 s84 s85 s86 s87 s88 s89 s90 s91 s92 s93 s94 s95 s96 s97 s98 s99 s100 s101 s102 s103 s104 s105 s106 s107 s108 s109 s110 s111 s112 s113 s114 s115 s116 s117 s118 s119 s120 s121 s122 s123 s124 s125 s126 s127 s128 s129 s130 s131 s132 s133 s134 s135 s136 s137 s138 s139 s140 s141 s142 s143 s144 s145 s146 s147 s148 s149 s150 s151 s152 s153 s154 s155 s156 s157 s158 s159 s160 s161 s162 s163 s164 s165 s166 s167 s168 s169 s170 s171 s172 s173 s174 s175 s176 s177 s178 s179 s180 s181 w' h
  refine (by assumption : ∀ (a : Act) (w'' : World), Code.wp Tryd.prog _ _ a w'' → _) _ _ (known_tail8 w w' (hid h))
end Go.Proofs.YtklihdlfbhgpeaaDoor
