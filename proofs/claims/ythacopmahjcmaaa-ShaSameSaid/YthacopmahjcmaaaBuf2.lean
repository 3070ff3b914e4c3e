/-
  Further laws for byte buffers: as steps of a region that draws its order. No program in sight.
-/
import Derived.Test.YthacopmahjcmaaaBuf
namespace Go.Proofs.Ythacopmahjcmaaa
open Go.RowKit
section
variable {P : Program} {w : World} {ops : Array Oper} {o : Oper} {a : Act} {Q : Exit → Act → World → Prop} {K : Act → World → Prop} {E : Prop}
theorem step_append_buf_str (hgd : o.guard = none) (s x : Operand) (t u : TypeId) (ho : o.op = .call { callee := .builtin .append, args := #[s, x], argTypes := #[t, u] })
    (base : Nat) (e : TypeId) (i : TypeInfo) (ht : P.underlying t = some (.slice e)) (hu : P.underlying u = some .string) (hi : P.info? e = some i) (hz : i.zero = some (.int .u8 0)) (hsize : i.size = 1) (hby : i.bytes = 1)
    (v : Value) (xs : List UInt8) (hs : a.eval s = v) (hown : Buf w base e v xs) (ys : List UInt8) (hx : a.eval x = .string ⟨ys.toArray⟩)
    (h63 : xs.length + ys.length ≤ 140737488355328) (h : ∀ v' w', Buf w' base e v' (xs ++ ys) → w.grownBy w' v.ownBlock → K (a.put o.dst v') w') :
    if Region.wanted o (yielded ops a.tmps) = true then Oper.wp P o a w K Q else E := by
  have hw : Region.wanted o (yielded ops a.tmps) = true := by simp [Region.wanted, hgd]
  rw [if_pos hw]
  obtain ⟨v', w', hr, h2, h3⟩ := run_append_buf_str (P := P) w base t u o.type e i ht hu hi hz hsize hby v xs hown ys h63
  unfold Oper.wp
  simp [execOp, ho, resolve, invoke, builtin, hs, hx, hr, Result.andThen]
  exact h v' w' h2 h3
/-- '[]byte(s)', as an equation for every world. -/
theorem bytes_run (src dst e : TypeId) (hs : P.underlying src = some .string) (hd : P.underlying dst = some (.slice e)) (he : P.underlying e = some (.int .u8)) (l : List UInt8) (hl : l.length ≤ 140737488355328) :
    ∃ (c : World → Nat) (ob : World → Obj), ∀ W : World, (convert src dst (.string ⟨l.toArray⟩)).run P W = .ok (.slice (some ⟨W.heap.size, 0, none⟩) l.length (c W)) (W.drew.alloc (ob W)) ∧ Buf (W.drew.alloc (ob W)) W.heap.size e (.slice (some ⟨W.heap.size, 0, none⟩) l.length (c W)) l := by
  have hsz : (ByteArray.mk l.toArray).size = l.length := by simp [ByteArray.size]
  refine ⟨fun W => grownCap W l.length 0 e, fun W => .cells (bytesRow ⟨l.toArray⟩ (grownCap W l.length 0 e)) e ((bytesRow ⟨l.toArray⟩ (grownCap W l.length 0 e)).size, (bytesRow ⟨l.toArray⟩ (grownCap W l.length 0 e)).size + 1), fun W => ?_⟩
  have hrun := run_bytes_of_string (P := P) W src dst e ⟨l.toArray⟩ hs hd he
  have hcap : l.length ≤ grownCap W l.length 0 e := grownCap_ge W _ _ e
  rw [hsz] at hrun
  refine ⟨hrun, W.heap.size, grownCap W l.length 0 e, _, _, rfl, Nat.le_refl _, heap_alloc_new W.drew _, .inr (Nat.le_refl _), hcap, grownCap_le_maxLen W _ _ e (by unfold maxLen; omega), ?_, ?_⟩
  · simp [bytesRow, hsz]
    omega
  · simp [bytesRow, bv]
end
end Go.Proofs.Ythacopmahjcmaaa
