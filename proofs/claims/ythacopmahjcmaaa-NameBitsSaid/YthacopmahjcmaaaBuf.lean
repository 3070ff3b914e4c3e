/-
  A slice of bytes that the call has made itself, by '[]byte(s)' or by append: laws for append. No program in sight.
-/
import Derived.Test.YthacopmahjcmaaaGen
import Derived.Lib.AppendStr
import Derived.OwnWalkIn
namespace Go.Proofs.Ythacopmahjcmaaa
open Go.RowKit

/-- The slice v owns the bytes xs: they lie at the head of a block at or above base, none of whose cells is frozen. -/
def Buf (w : World) (base : Nat) (e : TypeId) (v : Value) (xs : List UInt8) : Prop :=
  ∃ g cap cur fz, v = .slice (some ⟨g, 0, none⟩) xs.length cap ∧ base ≤ g ∧ w.heap[g]? = some (.cells cur e fz) ∧ (fz.2 = 0 ∨ cur.size ≤ fz.1) ∧ xs.length ≤ cap ∧ cap ≤ maxLen ∧ cur.size = cap ∧ cur.toList.take xs.length = bv xs
section
variable {w w' : World} {base : Nat} {e : TypeId} {v : Value} {xs : List UInt8}
theorem Buf.kept {row : Option Nat} (h : Buf w base e v xs) (hg : w.grownBy w' row) (hr : row = none ∨ v.ownBlock ≠ row) : Buf w' base e v xs := by
  obtain ⟨g, cap, cur, fz, rfl, hb, hc, rest⟩ := h
  refine ⟨g, cap, cur, fz, rfl, hb, (hg.block g (Array.getElem?_eq_some_iff.1 hc).1 ?_).trans hc, rest⟩
  rcases hr with rfl | hr
  · simp
  · exact hr
theorem Buf.alloc (h : Buf w base e v xs) (o : Obj) : Buf (w.alloc o) base e v xs := h.kept (World.grownBy_alloc w o none) (.inl rfl)
theorem Buf.drew (h : Buf w base e v xs) : Buf w.drew base e v xs := h
theorem Buf.lt (h : Buf w base e v xs) : base < w.heap.size := by
  obtain ⟨g, cap, cur, fz, rfl, hb, hc, _⟩ := h
  have := (Array.getElem?_eq_some_iff.1 hc).1
  omega
theorem Buf.own (h : Buf w base e v xs) : ∀ k, v.ownBlock = some k → base ≤ k ∧ k < w.heap.size := by
  obtain ⟨g, cap, cur, fz, rfl, hb, hc, _⟩ := h
  intro k hk
  obtain rfl : g = k := by simpa [Value.ownBlock] using hk
  exact ⟨hb, (Array.getElem?_eq_some_iff.1 hc).1⟩
theorem Buf.form (h : Buf w base e v xs) : ∃ g cap, v = .slice (some ⟨g, 0, none⟩) xs.length cap ∧ base ≤ g ∧ g < w.heap.size ∧ xs.length ≤ cap ∧ ∀ j u, (bv xs)[j]? = some u → w.cell? ⟨g, j, none⟩ = some u := by
  obtain ⟨g, cap, cur, fz, rfl, hb, hc, _, hle, _, _, ht⟩ := h
  refine ⟨g, cap, rfl, hb, (Array.getElem?_eq_some_iff.1 hc).1, hle, fun j u hu => ?_⟩
  rw [cell_of_row w g j cur e fz hc]
  have hj : j < xs.length := by have := (List.getElem?_eq_some_iff.1 hu).1; rwa [bv_length] at this
  rw [← ht, List.getElem?_take, if_pos hj] at hu
  simpa using hu
theorem Buf.rd (h : Buf w base e v xs) (g : Nat) (hg : w.heap.size ≤ g) : ∃ A c, v = .slice A xs.length c ∧ Rd w g A xs.length (bv xs) := by
  obtain ⟨g', cap, hv, hb, hl, _, hc⟩ := h.form
  exact ⟨_, _, hv, bv_length xs, fun _ => ⟨g', 0, rfl, by omega, hl, fun j u hu => by rw [Nat.zero_add]; exact hc j u hu⟩⟩
end

theorem run_storeCells_free (P : Program) (g o : Nat) (t : TypeId) (fz : Nat × Nat) : ∀ (vs : List Value) (i : Nat) (cur : Array Value) (w : World), w.heap[g]? = some (.cells cur t fz) → (fz.2 = 0 ∨ cur.size ≤ fz.1) → o + i + vs.length ≤ cur.size → (∀ v ∈ vs, v.oneCell' = true) →
    (storeCells ⟨g, o, none⟩ vs i).run P w = .ok () (w.setRow g (cur.toList.take (o + i) ++ vs ++ cur.toList.drop (o + i + vs.length)).toArray) := by
  intro vs
  induction vs with
  | nil =>
    intro i cur w hg _ _ _
    simp only [storeCells, List.append_nil, List.length_nil, Nat.add_zero, List.take_append_drop, Array.toArray_toList]
    rw [setRow_self w g cur t fz hg]
    rfl
  | cons v rest ih =>
    intro i cur w hg hfz hl h1
    simp only [List.length_cons] at hl
    have hi : o + i < cur.size := by omega
    have hadd : (⟨g, o, none⟩ : Addr).add i = ⟨g, o + i, none⟩ := by unfold Addr.add; split <;> simp_all
    have hcell : w.cell? ⟨g, o + i, none⟩ = some cur[o + i] := by rw [cell_of_row w g (o + i) cur t fz hg]; simp [hi]
    have hfro : w.frozen? ⟨g, o + i, none⟩ = false := by
      obtain ⟨lo, up⟩ := fz
      simp only [World.frozen?, hg, Bool.and_eq_false_iff, decide_eq_false_iff_not]
      simp only at hfz
      omega
    have hst : (store ((⟨g, o, none⟩ : Addr).add i) v).run P w = .ok () (w.setRow g (cur.setIfInBounds (o + i) v)) := by
      rw [hadd, run_store P w _ v _ (h1 v (by simp)), hcell]
      simp [hfro, setCell_eq_setRow w g (o + i) cur t fz v hg]
    have := ih (i + 1) (cur.setIfInBounds (o + i) v) (w.setRow g (cur.setIfInBounds (o + i) v)) (setRow_heap w g cur _ t _ hg) (by simpa using hfz) (by simp; omega) (fun x hx => h1 x (by simp [hx]))
    simp only [storeCells, Sem.run_bind, hst, Result.andThen_ok, this, setRow_setRow]
    congr 3
    have e := list_seg_step cur.toList (o + i) v rest (by simp; omega)
    simpa [Array.toList_setIfInBounds, Nat.add_assoc] using e

section
variable {P : Program} (w : World)
theorem buf_room {base : Nat} {e : TypeId} {g cap : Nat} {cur : Array Value} {fz : Nat × Nat} {xs ys : List UInt8} (hb : base ≤ g) (hc : w.heap[g]? = some (.cells cur e fz)) (hf : fz.2 = 0 ∨ cur.size ≤ fz.1) (hm : cap ≤ maxLen) (hs : cur.size = cap)
    (ht : cur.toList.take xs.length = bv xs) (hr : xs.length + ys.length ≤ cap) :
    Buf (w.setRow g (cur.toList.take xs.length ++ bv ys ++ cur.toList.drop (xs.length + (bv ys).length)).toArray) base e (.slice (some ⟨g, 0, none⟩) (xs.length + ys.length) cap) (xs ++ ys) := by
  have hl : xs.length ≤ cur.toList.length := by simp; omega
  have hz : (cur.toList.take xs.length ++ bv ys ++ cur.toList.drop (xs.length + (bv ys).length)).length = cap := by
    simp only [List.length_append, List.length_take, List.length_drop, bv_length, Array.length_toList]
    omega
  refine ⟨g, cap, _, fz, by rw [List.length_append], hb, setRow_heap w g cur _ e fz hc, ?_, by rw [List.length_append]; exact hr, hm, by simpa using hz, ?_⟩
  · rcases hf with hf | hf
    · exact .inl hf
    · exact .inr (by simp only [List.size_toArray, hz]; omega)
  · rw [ht, bv_append]
    have : (xs ++ ys).length = (bv xs ++ bv ys).length := by simp [bv_length]
    rw [this]
    exact List.take_left

theorem buf_grow {base : Nat} {e : TypeId} {xs ys : List UInt8} {cap : Nat} (hbase : base ≤ w.heap.size) (k : Nat) (hge : xs.length + ys.length ≤ cap) (hm : cap ≤ maxLen) (z : Value) (hz : z.cells.size = 1) (hk : k = cap - (xs.length + ys.length)) :
    Buf (w.drew.alloc (.cells ((bv xs).toArray ++ (bv ys).toArray ++ Builtin.zeroCells z.cells k) e)) base e (.slice (some ⟨w.heap.size, 0, none⟩) (xs.length + ys.length) cap) (xs ++ ys) := by
  refine ⟨w.heap.size, cap, _, (0, 0), by rw [List.length_append], hbase, heap_alloc_new w.drew _, .inl rfl, by rw [List.length_append]; exact hge, hm, ?_, ?_⟩
  · simp only [Array.size_append, List.size_toArray, size_zeroCells, hz, bv_length]
    omega
  · simp only [Array.toList_append]
    rw [bv_append]
    have : (xs ++ ys).length = (bv xs ++ bv ys).length := by simp [bv_length]
    rw [this]
    exact List.take_left

/-- append(v, x...), x a slice of bytes. -/
theorem run_append_buf (base : Nat) (t ty e : TypeId) (i : TypeInfo) (ht : P.underlying t = some (.slice e)) (hi : P.info? e = some i) (hz : i.zero = some (.int .u8 0)) (hsize : i.size = 1) (hby : i.bytes = 1)
    (v : Value) (xs : List UInt8) (hown : Buf w base e v xs) (a : Addr) (c : Nat) (ys : List UInt8) (hnews : ∀ j u, (bv ys)[j]? = some u → w.cell? (a.add j) = some u)
    (h63 : xs.length + ys.length ≤ 140737488355328) :
    ∃ v' w', (Builtin.append_ #[t, t] ty #[v, .slice (some a) ys.length c]).run P w = .ok v' w' ∧ Buf w' base e v' (xs ++ ys) ∧ w.grownBy w' v.ownBlock := by
  have hbase := Nat.le_of_lt hown.lt
  obtain ⟨g, cap, cur, fz, rfl, hb, hc, hf, hle, hm, hs, htk⟩ := id hown
  have hn1 : (bv ys).length = ys.length * i.size := by rw [hsize, bv_length]; omega
  by_cases hroom : xs.length + ys.length ≤ cap
  · have hfc := run_firstCells_some (P := P) w i.size ys.length a ys.length c (bv ys) hn1 hnews
    have hst := run_storeCells_free P g (xs.length * i.size) e fz (bv ys) 0 cur w hc hf (by rw [hsize, bv_length]; omega) (bv_one ys)
    simp only [Nat.add_zero] at hst
    refine ⟨.slice (some ⟨g, 0, none⟩) (xs.length + ys.length) cap, _, ?_, buf_room w hb hc hf hm hs htk hroom, ⟨rfl, rfl, rfl, by simp, fun k _ hk => setRow_other w g k _ (fun e => hk (by simp [Value.ownBlock, e]))⟩⟩
    rw [hsize, Nat.mul_one] at hst
    rw [hsize] at hfc
    simp [Builtin.append_, run_underlying ht, sizeOf, typeInfo, hi, Builtin.lenOf, hroom, hfc, Addr.add_lit, hst, hsize]
  · obtain ⟨g2, cap2, hv2, _, _, _, hcl⟩ := hown.form
    simp only [Value.slice.injEq, Option.some.injEq, Addr.mk.injEq, and_true, true_and] at hv2
    obtain ⟨rfl, rfl⟩ := hv2
    have hr := run_append_grow (P := P) w t ty e i (.int .u8 0) ht hi hz ⟨g, 0, none⟩ xs.length cap (bv xs) (by rw [hsize, bv_length]; omega) (fun j u hu => by
      have hadd : (⟨g, 0, none⟩ : Addr).add j = ⟨g, j, none⟩ := by unfold Addr.add; split <;> simp_all
      rw [hadd]; exact hcl j u hu) a ys.length c (bv ys) hn1 hnews (by omega) (by omega) (growslice_fits (by omega) (by rw [hby]; omega))
    have hge := grownCap_ge w (xs.length + ys.length) cap e
    exact ⟨_, _, hr, buf_grow w hbase _ hge (grownCap_le_maxLen w _ _ e (by unfold maxLen; omega)) _ rfl rfl, ⟨rfl, rfl, rfl, by simp, fun k hk _ => Below.heap_alloc w.drew _ k hk⟩⟩

/-- append(v, s...), s a string. -/
theorem run_append_buf_str (base : Nat) (t u ty e : TypeId) (i : TypeInfo) (ht : P.underlying t = some (.slice e)) (hu : P.underlying u = some .string) (hi : P.info? e = some i) (hz : i.zero = some (.int .u8 0)) (hsize : i.size = 1) (hby : i.bytes = 1)
    (v : Value) (xs : List UInt8) (hown : Buf w base e v xs) (ys : List UInt8) (h63 : xs.length + ys.length ≤ 140737488355328) :
    ∃ v' w', (Builtin.append_ #[t, u] ty #[v, .string ⟨ys.toArray⟩]).run P w = .ok v' w' ∧ Buf w' base e v' (xs ++ ys) ∧ w.grownBy w' v.ownBlock := by
  have hbase := Nat.le_of_lt hown.lt
  obtain ⟨g, cap, cur, fz, rfl, hb, hc, hf, hle, hm, hs, htk⟩ := id hown
  have hsz : (ByteArray.mk ys.toArray).size = ys.length := by simp [ByteArray.size]
  have hsc : Lib.strCells ⟨ys.toArray⟩ = bv ys := by simp [Lib.strCells, bv]
  by_cases hroom : xs.length + ys.length ≤ cap
  · have hfc := Lib.run_firstCells_string (P := P) w 1 ⟨ys.toArray⟩
    have hst := run_storeCells_free P g xs.length e fz (bv ys) 0 cur w hc hf (by rw [bv_length]; omega) (bv_one ys)
    simp only [Nat.add_zero] at hst
    rw [hsc] at hfc
    refine ⟨.slice (some ⟨g, 0, none⟩) (xs.length + ys.length) cap, _, ?_, buf_room w hb hc hf hm hs htk hroom, ⟨rfl, rfl, rfl, by simp, fun k _ hk => setRow_other w g k _ (fun e => hk (by simp [Value.ownBlock, e]))⟩⟩
    rw [hsz] at hfc
    simp [Builtin.append_, run_underlying ht, run_underlying hu, sizeOf, typeInfo, hi, hsize, Builtin.lenOf, hsz, hroom, hfc, Addr.add_lit, hst]
  · obtain ⟨g2, cap2, hv2, _, _, _, hcl⟩ := hown.form
    simp only [Value.slice.injEq, Option.some.injEq, Addr.mk.injEq, and_true, true_and] at hv2
    obtain ⟨rfl, rfl⟩ := hv2
    have hr := Lib.run_append_grow_string (P := P) w t u ty e i (.int .u8 0) ht hu hi hz ⟨g, 0, none⟩ xs.length cap (bv xs) (by rw [hsize, bv_length]; omega) (fun j u hu => by
      have hadd : (⟨g, 0, none⟩ : Addr).add j = ⟨g, j, none⟩ := by unfold Addr.add; split <;> simp_all
      rw [hadd]; exact hcl j u hu) ⟨ys.toArray⟩ (by rw [hsz]; omega) (by rw [hsz]; omega) (growslice_fits (by rw [hsz]; omega) (by rw [hby, hsz]; omega))
    have hge := grownCap_ge w (xs.length + ys.length) cap e
    rw [hsz, hsc] at hr
    exact ⟨_, _, hr, buf_grow w hbase _ hge (grownCap_le_maxLen w _ _ e (by unfold maxLen; omega)) _ rfl rfl, ⟨rfl, rfl, rfl, by simp, fun k hk _ => Below.heap_alloc w.drew _ k hk⟩⟩

/-- '[]byte(s)'. -/
theorem run_bytes_buf (src dst e : TypeId) (hs : P.underlying src = some .string) (hd : P.underlying dst = some (.slice e)) (he : P.underlying e = some (.int .u8)) (l : List UInt8) (hl : l.length ≤ 140737488355328) :
    ∃ v w', (convert src dst (.string ⟨l.toArray⟩)).run P w = .ok v w' ∧ Buf w' w.heap.size e v l ∧ Below w.heap.size w w' := by
  have hrun := run_bytes_of_string (P := P) w src dst e ⟨l.toArray⟩ hs hd he
  have hsz : (ByteArray.mk l.toArray).size = l.length := by simp [ByteArray.size]
  have hcap : l.length ≤ grownCap w l.length 0 e := grownCap_ge w _ _ e
  rw [hsz] at hrun
  refine ⟨_, _, hrun, ⟨w.heap.size, grownCap w l.length 0 e, _, _, rfl, Nat.le_refl _, heap_alloc_new w.drew _, .inr (Nat.le_refl _), hcap, grownCap_le_maxLen w _ _ e (by unfold maxLen; omega), ?_, ?_⟩, (Below.refl _ _).drew.alloc (by simp) _⟩
  · simp [bytesRow, hsz]
    omega
  · simp [bytesRow, bv]
end

section
variable {P : Program} {w : World} {ops : Array Oper} {rest : List Oper} {o : Oper} {a : Act} {Q : Exit → Act → World → Prop} {F : Fence} {n : Nat}
theorem wpList_append_buf (hgd : o.guard = none) (s x : Operand) (t : TypeId) (ho : o.op = .call { callee := .builtin .append, args := #[s, x], argTypes := #[t, t] })
    (base : Nat) (e : TypeId) (i : TypeInfo) (ht : P.underlying t = some (.slice e)) (hi : P.info? e = some i) (hz : i.zero = some (.int .u8 0)) (hsize : i.size = 1) (hby : i.bytes = 1)
    (v : Value) (xs : List UInt8) (hs : a.eval s = v) (hown : Buf w base e v xs) (ad : Addr) (c : Nat) (ys : List UInt8) (m : Nat) (hx : a.eval x = .slice (some ad) m c) (hm : ys.length = m) (hnews : ∀ j u, (bv ys)[j]? = some u → w.cell? (ad.add j) = some u)
    (h63 : xs.length + ys.length ≤ 140737488355328) (h : ∀ v' w', Buf w' base e v' (xs ++ ys) → w.grownBy w' v.ownBlock → wpList P ops Q rest (a.put o.dst v') w') : wpList P ops Q (o :: rest) a w := by
  subst hm
  refine wpList_plain hgd fun K hK => ?_
  obtain ⟨v', w', hr, h2, h3⟩ := run_append_buf (P := P) w base t o.type e i ht hi hz hsize hby v xs hown ad c ys hnews h63
  unfold Oper.wp
  simp [execOp, ho, resolve, invoke, builtin, hs, hx, hr, Result.andThen]
  exact hK _ _ (h v' w' h2 h3)
theorem wpList_append_buf_str (hgd : o.guard = none) (s x : Operand) (t u : TypeId) (ho : o.op = .call { callee := .builtin .append, args := #[s, x], argTypes := #[t, u] })
    (base : Nat) (e : TypeId) (i : TypeInfo) (ht : P.underlying t = some (.slice e)) (hu : P.underlying u = some .string) (hi : P.info? e = some i) (hz : i.zero = some (.int .u8 0)) (hsize : i.size = 1) (hby : i.bytes = 1)
    (v : Value) (xs : List UInt8) (hs : a.eval s = v) (hown : Buf w base e v xs) (ys : List UInt8) (hx : a.eval x = .string ⟨ys.toArray⟩)
    (h63 : xs.length + ys.length ≤ 140737488355328) (h : ∀ v' w', Buf w' base e v' (xs ++ ys) → w.grownBy w' v.ownBlock → wpList P ops Q rest (a.put o.dst v') w') : wpList P ops Q (o :: rest) a w := by
  refine wpList_plain hgd fun K hK => ?_
  obtain ⟨v', w', hr, h2, h3⟩ := run_append_buf_str (P := P) w base t u o.type e i ht hu hi hz hsize hby v xs hown ys h63
  unfold Oper.wp
  simp [execOp, ho, resolve, invoke, builtin, hs, hx, hr, Result.andThen]
  exact hK _ _ (h v' w' h2 h3)
theorem wpList_bytes_buf (hgd : o.guard = none) (x : Operand) (src dst e : TypeId) (hop : o.op = Op.convert src dst x) (hs : P.underlying src = some .string) (hd : P.underlying dst = some (.slice e)) (he : P.underlying e = some (.int .u8))
    (l : List UInt8) (hx : a.eval x = .string ⟨l.toArray⟩) (hl : l.length ≤ 140737488355328) (h : ∀ v w', Buf w' w.heap.size e v l → Below w.heap.size w w' → wpList P ops Q rest (a.put o.dst v) w') : wpList P ops Q (o :: rest) a w := by
  refine wpList_plain hgd fun K hK => ?_
  obtain ⟨v, w', hr, h2, h3⟩ := run_bytes_buf (P := P) w src dst e hs hd he l hl
  unfold Oper.wp
  simp [execOp, hop, hx, hr, Result.andThen]
  exact hK _ _ (h v w' h2 h3)
/-! The same in a fence. -/
theorem wpListIn_append_buf (hgd : o.guard = none) (s x : Operand) (t : TypeId) (ho : o.op = .call { callee := .builtin .append, args := #[s, x], argTypes := #[t, t] })
    (base : Nat) (e : TypeId) (i : TypeInfo) (ht : P.underlying t = some (.slice e)) (hi : P.info? e = some i) (hz : i.zero = some (.int .u8 0)) (hsize : i.size = 1) (hby : i.bytes = 1)
    (v : Value) (xs : List UInt8) (hs : a.eval s = v) (hown : Buf w base e v xs) (ad : Addr) (c : Nat) (ys : List UInt8) (m : Nat) (hx : a.eval x = .slice (some ad) m c) (hm : ys.length = m) (hnews : ∀ j u, (bv ys)[j]? = some u → w.cell? (ad.add j) = some u)
    (h63 : xs.length + ys.length ≤ 140737488355328) (h : ∀ v' w', Buf w' base e v' (xs ++ ys) → w.grownBy w' v.ownBlock → wpListIn F n P ops Q rest (a.put o.dst v') w') : wpListIn F n P ops Q (o :: rest) a w := by
  subst hm
  refine wpListIn_plain hgd fun K hK => ?_
  obtain ⟨v', w', hr, h2, h3⟩ := run_append_buf (P := P) w base t o.type e i ht hi hz hsize hby v xs hown ad c ys hnews h63
  unfold Oper.wpIn
  refine ⟨?_, ?_⟩
  · simp [Oper.about, ho, resolve, Target.leads, Sem.run_pure]
  · rw [Oper.semAt_plain F _ _ (by rw [ho]; intro c hc; cases hc)]
    simp [execOp, ho, resolve, invoke, builtin, hs, hx, hr, Result.andThen]
    exact hK _ _ (h v' w' h2 h3)
theorem wpListIn_bytes_buf (hgd : o.guard = none) (x : Operand) (src dst e : TypeId) (hop : o.op = Op.convert src dst x) (hs : P.underlying src = some .string) (hd : P.underlying dst = some (.slice e)) (he : P.underlying e = some (.int .u8))
    (l : List UInt8) (hx : a.eval x = .string ⟨l.toArray⟩) (hl : l.length ≤ 140737488355328) (h : ∀ v w', Buf w' w.heap.size e v l → Below w.heap.size w w' → wpListIn F n P ops Q rest (a.put o.dst v) w') : wpListIn F n P ops Q (o :: rest) a w := by
  refine wpListIn_plain hgd fun K hK => ?_
  obtain ⟨v, w', hr, h2, h3⟩ := run_bytes_buf (P := P) w src dst e hs hd he l hl
  unfold Oper.wpIn
  refine ⟨?_, ?_⟩
  · simp [Oper.about, hop]
  · rw [Oper.semAt_plain F _ _ (by rw [hop]; intro c hc; cases hc)]
    simp [execOp, hop, hx, hr, Result.andThen]
    exact hK _ _ (h v w' h2 h3)
end
end Go.Proofs.Ythacopmahjcmaaa
