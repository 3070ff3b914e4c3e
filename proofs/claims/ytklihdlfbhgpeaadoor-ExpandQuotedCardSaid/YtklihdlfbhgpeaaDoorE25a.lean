/-
  The walk of ExpandQuoted: any two lists of texts. No conditions beside the table of powers of ten.
-/
import Derived.Test.YtklihdlfbhgpeaaDoorQM
import Derived.Deep.RegionHeldLaw
namespace Go.Proofs.YtklihdlfbhgpeaaDoor
open Go.RowKit
set_option linter.unusedVariables false

theorem infoP : (Tryd.prog.info? 47).map (fun i => (i.zero, i.size, i.bytes)) = some (some (.agg #[.int .i64 0, .string ⟨#[]⟩, .string ⟨#[]⟩, .bool false, .slice none 0 0, .pointer none]), 6, 80) := by kernel_rfl
theorem wQ_len (bs : List Str) (k : Nat) (h : k < 8) : (wQ bs k).length ≤ 16 := by
  have : ∀ k, (wQ bs k).length ≤ 2 * k := by
    intro k
    induction k with
    | zero => simp [wQ]
    | succ k ih =>
      have : (tQ bs k).length ≤ 1 := by unfold tQ; split <;> simp
      rw [wQ, List.length_append, List.length_append]
      simp only [List.length_singleton]
      omega
  have := this k
  omega
theorem gQ_len (vs bs : List Str) (k : Nat) (h : k ≤ 8) : (gQ vs bs k).length ≤ 16 := by
  have : ∀ k, (gQ vs bs k).length ≤ 2 * k := by
    intro k
    induction k with
    | zero => simp [gQ]
    | succ k ih =>
      have : (if k < bs.length then [runOf true (bQ bs k)] else []).length ≤ 1 := by split <;> simp
      rw [gQ, List.length_append, List.length_append]
      simp only [List.length_singleton]
      omega
  have := this k
  omega
theorem take_min (s : Str) (m n : Nat) (h : m = min s.length n) : s.take m = s.take n := by
  subst h
  by_cases e : s.length ≤ n
  · rw [Nat.min_eq_left e, List.take_length, List.take_of_length_le e]
  · rw [Nat.min_eq_right (by omega)]
section
variable {P : Program} {w : World} {ops : Array Oper} {a : Act} {Q : Exit → Act → World → Prop} {K : Act → World → Prop} {E : Prop}
/-- append onto a row of the call's own, as a step of a region that draws its order: at the append alone. -/
theorem step_append_at {dst : Option Tmp} {s x : Operand} {t : TypeId} {ty : TypeId} {pos : String} {after : Array Edge} (base : Nat) (e : TypeId) (i : TypeInfo) (z : Value) (size bytes : Nat)
    (ht : P.underlying t = some (.slice e)) (hi : P.info? e = some i) (hz : i.zero = some z) (hsize : i.size = size) (hby : i.bytes = bytes) (hzs : z.cells.size = size) (hsz : 0 < size)
    (v : Value) (n : Nat) (xs : List Value) (hs : a.eval s = v) (hown : w.ownsRow base e size v n xs)
    (ad : Addr) (m c : Nat) (news : List Value) (hx : a.eval x = .slice (some ad) m c) (hl : news.length = m * size) (hnews : ∀ j u, news[j]? = some u → w.cell? (ad.add j) = some u) (h1 : ∀ u ∈ news, u.oneCell' = true)
    (h63 : n + m ≤ maxLen) (hbytes : (n + m) * bytes ≤ 140737488355328) (hbase : base ≤ w.heap.size)
    (h : ∀ v' w', w'.ownsRow base e size v' (n + m) (xs ++ news) → w.grownBy w' v.ownBlock → (v'.ownBlock = v.ownBlock ∨ v'.ownBlock = some w.heap.size) → K (a.put dst v') w') :
    if Region.wanted ({ dst := dst, op := .call { callee := .builtin .append, args := #[s, x], argTypes := #[t, t] }, type := ty, pos := pos, after := after, guard := none } : Oper) (yielded ops a.tmps) = true then Oper.wp P { dst := dst, op := .call { callee := .builtin .append, args := #[s, x], argTypes := #[t, t] }, type := ty, pos := pos, after := after, guard := none } a w K Q else E := by
  exact step_append_own_at rfl s x t rfl base e i z size bytes ht hi hz hsize hby hzs hsz v n xs hs hown ad m c news hx hl hnews h1 h63 hbytes hbase h
/-- A call of a Go function, as a step of a region that draws its order. -/
theorem step_call_at {dst : Option Tmp} {n : FuncId} {args : List Operand} {tys : Array TypeId} {ty : TypeId} {pos : String} {after : Array Edge} {R : Ending → World → Prop} (vals : List Value)
    (hcf : (callFunc n vals.toArray).run P w = .ok (.enter n vals.toArray) w) (hargs : args.map a.eval = vals) (hc : Calls P n vals.toArray w R) (h : ∀ e w', R e w' → ∃ v, e = .returned v ∧ K (a.put dst v) w') :
    if Region.wanted ({ dst := dst, op := .call { callee := .value (.func n), args := args.toArray, argTypes := tys }, type := ty, pos := pos, after := after, guard := none } : Oper) (yielded ops a.tmps) = true then Oper.wp P { dst := dst, op := .call { callee := .value (.func n), args := args.toArray, argTypes := tys }, type := ty, pos := pos, after := after, guard := none } a w K Q else E := by
  have hw : Region.wanted ({ dst := dst, op := .call { callee := .value (.func n), args := args.toArray, argTypes := tys }, type := ty, pos := pos, after := after, guard := none } : Oper) (yielded ops a.tmps) = true := by simp [Region.wanted]
  rw [if_pos hw]
  unfold Oper.wp execOp
  subst hargs
  simp [resolve, invoke, go_sem]
  rw [hcf, Oper.upon_enter]
  refine hc.mono fun e w' hR => ?_
  obtain ⟨v, rfl, hk⟩ := h e w' hR
  exact hk
end
theorem cf13 (vals : Array Value) (w : World) : (callFunc 13 vals).run Tryd.prog w = .ok (.enter 13 vals) w := by kernel_rfl
theorem cf14 (vals : Array Value) (w : World) : (callFunc 14 vals).run Tryd.prog w = .ok (.enter 14 vals) w := by kernel_rfl
/-- A region, a statement 'if', of the function's body. -/
def findR (n : Nat) : Code → Option Code
  | .region k o d => if k = n then some (.region k o d) else none
  | .seq a b => match findR n a with
    | some c => some c
    | none => findR n b
  | .block _ c => findR n c
  | .scope c => findR n c
  | .loop c => findR n c
  | .cond _ a b => match findR n a with
    | some c => some c
    | none => findR n b
  | _ => none
def findC (n : Nat) : Code → Option Code
  | .seq a b => match findC n a with
    | some c => some c
    | none => findC n b
  | .block _ c => findC n c
  | .scope c => findC n c
  | .loop c => findC n c
  | .cond (.tmp k) a b => if k = n then some (.cond (.tmp k) a b) else match findC n a with
    | some c => some c
    | none => findC n b
  | _ => none
noncomputable def reg4 (n : Nat) : Code := (Tryd.f4.body.bind (findR n)).getD .skip
noncomputable def cond4 (n : Nat) : Code := (Tryd.f4.body.bind (findC n)).getD .skip
set_option maxRecDepth 100000 in
set_option maxHeartbeats 4000000 in
theorem q_reg8 {u1 u2 u3 u4 u5 u7 u10 u11 u12 u13 u14 u15 u16 u17 u18 u19 u20 u21 u22 u23 u24 u25 u26 u27 u28 u29 u30 u31 u32 u33 u34 u35 u36 u37 u38 u39 u40 u41 u42 u43 u44 u45 u46 u47 u48 u49 u50 u51 u52 u53 u54 u55 u56 u57 u58 u59 u60 u61 u62 u63 u64 u65 u66 u67 u68 u69 u70 u71 u72 u73 u74 u75 u76 u77 u78 u79 u80 u81 u82 u83 u84 u85 u86 u87 u88 u89 u90 u91 u92 u93 u94 u95 u96 u97 u98 u99 u100 u101 u102 u103 u104 u105 u106 u107 u108 u109 u110 u111 u112 u113 u114 u115 u116 u117 u118 u119 u120 u121 u122 u123 u124 u125 u126 u127 u128 u129 u130 u131 u132 u133 u134 u135 u136 u137 u138 u139 u140 u141 u142 u143 u144 u145 u146 u147 u148 u149 u150 u151 u152 u153 u154 u155 u156 u157 u158 u159 u160 u161 u162 u163 u164 u165 u166 u167 u168 u169 u170 u171 u172 u173 u174 u175 u176 u177 u178 u179 u180 u181 u182 u183 : Value} (vs : List Str) (k m1 b1 off1 c1 : Nat) (ch : UInt8) (u : Str) (w W7 : World) (lv : List (Str × Str)) (ps : List PartV) (vL v5 : Value) (l : List PartL) (hk8 : k < 8) (hkvI : (k : Int) < (vs.length : Int))
    (x2 : W7.cell? ⟨b1, off1 + k, none⟩ = some (.string ⟨u.toArray⟩)) (f1 : min (u.length : Int) 80 = (m1 : Int)) (f2 : (m1 : Int) ≤ (u.length : Int)) (HQ7 : Hid (QI w W7 lv ps vL v5 l)) (hll : lv.length = k) (J K1 K2 K3 : Act → World → Prop) (Post : Ending → World → Prop)
    (hJ : ∀ (s32 s33 s34 s35 s36 s37 s38 s39 s40 s41 s42 s43 s44 s45 s46 s47 s48 s49 : Value) (A : Option Addr) (c : Nat) (w3 : World), Hid (QI w w3 (lv ++ [([118, ch], u.take m1)]) ps (.slice A (k + 1) c) v5 l) → J ⟨List.toArray (.slice (some ⟨b1, off1, none⟩) vs.length c1 :: u1 :: u2 :: u3 :: u4 :: u5 :: .pointer (some ⟨w.heap.size, 0, none⟩) :: u7 :: .int .i64 k :: .string ⟨#[118, ch]⟩ :: u10 :: u11 :: u12 :: u13 :: u14 :: u15 :: u16 :: u17 :: u18 :: u19 :: u20 :: u21 :: u22 :: u23 :: u24 :: u25 :: u26 :: u27 :: u28 :: u29 :: u30 :: u31 :: s32 :: s33 :: s34 :: s35 :: s36 :: s37 :: s38 :: s39 :: s40 :: s41 :: s42 :: s43 :: s44 :: s45 :: s46 :: s47 :: s48 :: s49 :: u50 :: u51 :: u52 :: u53 :: u54 :: u55 :: u56 :: u57 :: u58 :: u59 :: u60 :: u61 :: u62 :: u63 :: u64 :: u65 :: u66 :: u67 :: u68 :: u69 :: u70 :: u71 :: u72 :: u73 :: u74 :: u75 :: u76 :: u77 :: u78 :: u79 :: u80 :: u81 :: u82 :: u83 :: u84 :: u85 :: u86 :: u87 :: u88 :: u89 :: u90 :: u91 :: u92 :: u93 :: u94 :: u95 :: u96 :: u97 :: u98 :: u99 :: u100 :: u101 :: u102 :: u103 :: u104 :: u105 :: u106 :: u107 :: u108 :: u109 :: u110 :: u111 :: u112 :: u113 :: u114 :: u115 :: u116 :: u117 :: u118 :: u119 :: u120 :: u121 :: u122 :: u123 :: u124 :: u125 :: u126 :: u127 :: u128 :: u129 :: u130 :: u131 :: u132 :: u133 :: u134 :: u135 :: u136 :: u137 :: u138 :: u139 :: u140 :: u141 :: u142 :: u143 :: u144 :: u145 :: u146 :: u147 :: u148 :: u149 :: u150 :: u151 :: u152 :: u153 :: u154 :: u155 :: u156 :: u157 :: u158 :: u159 :: u160 :: u161 :: u162 :: u163 :: u164 :: u165 :: u166 :: u167 :: u168 :: u169 :: u170 :: u171 :: u172 :: u173 :: u174 :: u175 :: u176 :: u177 :: u178 :: u179 :: u180 :: u181 :: u182 :: u183 :: []), []⟩ w3) :
    Code.wp Tryd.prog (reg4 8) (Exit.then J (Exit.inBlock 1 (Exit.then K1 (Exit.then K2 (Exit.inBlock 0 (Exit.then K3 (bodyPost Tryd.prog Tryd.f4 Post))))))) ⟨List.toArray (.slice (some ⟨b1, off1, none⟩) vs.length c1 :: u1 :: u2 :: u3 :: u4 :: u5 :: .pointer (some ⟨w.heap.size, 0, none⟩) :: u7 :: .int .i64 k :: .string ⟨#[118, ch]⟩ :: u10 :: u11 :: u12 :: u13 :: u14 :: u15 :: u16 :: u17 :: u18 :: u19 :: u20 :: u21 :: u22 :: u23 :: u24 :: u25 :: u26 :: u27 :: u28 :: u29 :: u30 :: u31 :: u32 :: u33 :: u34 :: u35 :: u36 :: u37 :: u38 :: u39 :: u40 :: u41 :: u42 :: u43 :: u44 :: u45 :: u46 :: u47 :: u48 :: u49 :: u50 :: u51 :: u52 :: u53 :: u54 :: u55 :: u56 :: u57 :: u58 :: u59 :: u60 :: u61 :: u62 :: u63 :: u64 :: u65 :: u66 :: u67 :: u68 :: u69 :: u70 :: u71 :: u72 :: u73 :: u74 :: u75 :: u76 :: u77 :: u78 :: u79 :: u80 :: u81 :: u82 :: u83 :: u84 :: u85 :: u86 :: u87 :: u88 :: u89 :: u90 :: u91 :: u92 :: u93 :: u94 :: u95 :: u96 :: u97 :: u98 :: u99 :: u100 :: u101 :: u102 :: u103 :: u104 :: u105 :: u106 :: u107 :: u108 :: u109 :: u110 :: u111 :: u112 :: u113 :: u114 :: u115 :: u116 :: u117 :: u118 :: u119 :: u120 :: u121 :: u122 :: u123 :: u124 :: u125 :: u126 :: u127 :: u128 :: u129 :: u130 :: u131 :: u132 :: u133 :: u134 :: u135 :: u136 :: u137 :: u138 :: u139 :: u140 :: u141 :: u142 :: u143 :: u144 :: u145 :: u146 :: u147 :: u148 :: u149 :: u150 :: u151 :: u152 :: u153 :: u154 :: u155 :: u156 :: u157 :: u158 :: u159 :: u160 :: u161 :: u162 :: u163 :: u164 :: u165 :: u166 :: u167 :: u168 :: u169 :: u170 :: u171 :: u172 :: u173 :: u174 :: u175 :: u176 :: u177 :: u178 :: u179 :: u180 :: u181 :: u182 :: u183 :: []), []⟩ W7 := by
  obtain ⟨i44, hj, hy0, hy1, hy2⟩ := info_parts infoV
  have hQ7 := HQ7.out
  have HJ := hid hJ
  clear hJ
  have c0 : W7.cell? ⟨w.heap.size, 0, none⟩ = some vL := by rw [hQ7.box.cell]; rfl
  have hs7 : w.heap.size < W7.heap.size := hQ7.box.lt
  have hnw := World.news_of_block (cs := #[.string ⟨#[118, ch]⟩, .string ⟨(u.take m1).toArray⟩]) (heap_alloc_new W7 (.cells #[.string ⟨#[118, ch]⟩, .string ⟨(u.take m1).toArray⟩] 44))
  obtain ⟨W8, hW8⟩ : ∃ W8, W8 = (W7.alloc (.cells #[.string ⟨#[118, ch]⟩, .string ⟨(u.take m1).toArray⟩] 44)).drew := ⟨_, rfl⟩
  have hb78 : Below W7.heap.size W7 W8 := by rw [hW8]; exact bel_any (bel_drw _) ((Below.refl _ _).alloc (Nat.le_refl _) _)
  have hnw8 : ∀ j u', [Value.string ⟨#[118, ch]⟩, .string ⟨(u.take m1).toArray⟩][j]? = some u' → W8.cell? ((⟨W7.heap.size, 0, none⟩ : Addr).add j) = some u' := by rw [hW8]; exact hnw
  have hst := fun w3 vL' => (hQ7.store_facts (w3 := w3) (vL' := vL') ([118, ch], u.take m1) hb78)
  have hv8 := own_kw hQ7.vars (Kw.below (M := fun _ _ => False) hb78) fun _ _ h => h
  have hs8 := hb78.size
  rw [hW8] at hnw8 hst hv8 hs8
  have HNW := hid hnw8
  have HV8 := hid hv8
  have HST := hid hst
  
  clear hQ7 hnw hnw8 hst hv8 hb78 hW8 W8
  conv => arg 2; whnf
  go_region_law (refine step_append_at (w.heap.size + 1) 44 i44 (.agg #[.string ⟨#[]⟩, .string ⟨#[]⟩]) 2 32 Tryd.underlying23 hj hy0 hy1 hy2 (by rfl) (by decide) vL lv.length (vrv lv) (by rfl) (by exact HV8.out) ⟨W7.heap.size, 0, none⟩ 1 1 [.string ⟨#[118, ch]⟩, .string ⟨(u.take m1).toArray⟩] (by rfl) (by rfl) (by exact HNW.out) (by simp [Value.oneCell']) (by unfold maxLen; omega) (by omega) (by omega) ?_; intro vL' w3 hown' hgrow hat'; obtain ⟨A', c', rfl, d1, f3, HF⟩ := HST.out w3 vL' hown' hgrow hat')
  all_goals
    clear hown' hgrow hat' d1 f3
    have h := HF.out
    rw [hll] at h
    exact HJ.out _ _ _ _ _ _ _ _ _ _ _ _ _ _ _ _ _ _ _ _ _ (hid h)
end Go.Proofs.YtklihdlfbhgpeaaDoor
