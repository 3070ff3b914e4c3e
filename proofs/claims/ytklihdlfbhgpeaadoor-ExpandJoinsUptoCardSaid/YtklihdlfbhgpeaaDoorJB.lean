/-
  For ExpandJoins: what few makes; what holds between its three runs of the expander. No conditions.
-/
import Derived.Test.YtklihdlfbhgpeaaDoorJA
import Derived.Test.YtklihdlfbhgpeaaDoorJ3
import Derived.Test.YtklihdlfbhgpeaaDoorS7
namespace Go.Proofs.YtklihdlfbhgpeaaDoor
open Go.RowKit
set_option linter.unusedVariables false


section
variable {P : Program} {md : Region.Mode} {ops : Array Oper} {Q : Exit → Act → World → Prop} {q : Nat} {S : Bool → World → Prop}
/-- Either of two operations may come up. -/
theorem wpAnyG_two {oi oj : Oper} {fuel : Nat} {listed : Array Bool} {a : Act} {w : World} (i j : Nat) (b c : Bool) (hoi : ops[i]? = some oi) (hoj : ops[j]? = some oj) (hr : Region.ready md ops listed = [i, j])
    (hb : ((listed.setIfInBounds i true).getD q false = b) ∧ (listed.setIfInBounds j true).getD q false = c)
    (h1 : ∀ K' : Act → World → Prop, Shut (∀ a w, S b w → wpAnyG P md ops Q q S fuel (listed.setIfInBounds i true) a w → K' a w) → if Region.wanted oi (yielded ops a.tmps) = true then Oper.wp P oi a w K' Q else K' (a.put oi.dst undef) w)
    (h2 : ∀ K' : Act → World → Prop, Shut (∀ a w, S c w → wpAnyG P md ops Q q S fuel (listed.setIfInBounds j true) a w → K' a w) → if Region.wanted oj (yielded ops a.tmps) = true then Oper.wp P oj a w K' Q else K' (a.put oj.dst undef) w) :
    wpAnyG P md ops Q q S (fuel + 1) listed a w := by
  refine ⟨fun h0 => absurd (hr ▸ h0) (by simp), fun k hk => ?_⟩
  rw [hr] at hk
  rcases List.mem_cons.1 hk with rfl | hk
  · exact wpOp_step hoi (fun K' hK => h1 K' fun a w hS hW => hK a w ⟨by rw [hb.1]; exact hS, hW⟩)
  · obtain rfl : k = j := by simpa using hk
    exact wpOp_step hoj (fun K' hK => h2 K' fun a w hS hW => hK a w ⟨by rw [hb.2]; exact hS, hW⟩)
end
/-- A call of a Go function, as a step of a region that draws its order. -/
theorem step_call_at {P : Program} {w : World} {ops : Array Oper} {a : Act} {Q : Exit → Act → World → Prop} {K : Act → World → Prop} {E : Prop} {dst : Option Tmp} {n : FuncId} {args : List Operand} {tys : Array TypeId} {ty : TypeId} {pos : String} {after : Array Edge} {R : Ending → World → Prop} (vals : List Value)
    (hcf : (callFunc n vals.toArray).run P w = .ok (.enter n vals.toArray) w) (hargs : args.map a.eval = vals) (hc : Calls P n vals.toArray w R) (h : ∀ e w', R e w' → ∃ v, e = .returned v ∧ K (a.put dst v) w') :
    if Region.wanted ({ dst := dst, op := .call { callee := .value (.func n), args := args.toArray, argTypes := tys }, type := ty, pos := pos, after := after, guard := none } : Oper) (yielded ops a.tmps) = true then Oper.wp P { dst := dst, op := .call { callee := .value (.func n), args := args.toArray, argTypes := tys }, type := ty, pos := pos, after := after, guard := none } a w K Q else E := by
  have hw : Region.wanted ({ dst := dst, op := .call { callee := .value (.func n), args := args.toArray, argTypes := tys }, type := ty, pos := pos, after := after, guard := none } : Oper) (yielded ops a.tmps) = true := by simp [Region.wanted]
  rw [if_pos hw]
  unfold Oper.wp execOp
  subst hargs
  simp [resolve, invoke, go_sem]
  rw [hcf, Oper.upon_enter]
  refine hc.mono fun e w' hR => ?_
  obtain ⟨v, rfl, hk⟩ := h e w' hR
  exact hk
theorem cf8 (vals : Array Value) (w : World) : (callFunc 8 vals).run Tryd.prog w = .ok (.enter 8 vals) w := by kernel_rfl
/-- The environment that few makes. -/
def fewV (l : List (Str × Str)) (al : List Str) (st : Int) : EnvV := ⟨fewL l 12, fewA al 12, st.tmod 1000, []⟩
theorem cut60_len (s : Str) : (cut60 s).length ≤ 60 := by unfold cut60; rw [List.length_take]; omega
theorem fewV_ok (l : List (Str × Str)) (al : List Str) (st : Int) : EnvOk (fewV l al st) := by
  refine ⟨fun v hv => ?_, ?_, fun x hx => ?_, ?_, ?_⟩
  · simp only [fewV, fewL, List.mem_map] at hv
    obtain ⟨y, _, rfl⟩ := hv
    have := cut60_len y.2
    simp only []
    omega
  · simp only [fewV, fewA, List.length_map, List.length_take]
    omega
  · simp only [fewV, fewA, List.mem_map] at hx
    obtain ⟨y, _, rfl⟩ := hx
    exact cut60_len y
  · have := Int.lt_tmod_of_pos st (show (0 : Int) < 1000 by decide)
    simpa [fewV] using this
  · have := Int.tmod_lt_of_pos st (show (0 : Int) < 1000 by decide)
    simpa [fewV] using this
theorem fewV_len (l : List (Str × Str)) (al : List Str) (st : Int) : (fewV l al st).vars.length ≤ 12 := by
  simp only [fewV, fewL, List.length_map, List.length_take]
  omega
/-- few, from any world at or behind w2. -/
def FewC (w2 : World) (arg : Value) (σ : EnvV) : Prop := ∀ w', Below w2.heap.size w2 w' → Calls Tryd.prog 8 #[arg] w' fun e w'' =>
  ∃ AL cL AA cA, e = .returned (.agg #[.slice AL σ.vars.length cL, .slice AA σ.args.length cA, .int .i64 σ.status]) ∧ Hid (FewR w2.heap.size w' w'' (.slice AL σ.vars.length cL) (.slice AA σ.args.length cA) σ)
theorem fewC_any (l : List (Str × Str)) (al : List Str) (st : Int) (A1 A2 : Option Addr) (c1 c2 : Nat) (w2 : World) (h1 : Rc w2 2 A1 l.length (vrv l)) (h2 : Rc w2 1 A2 al.length (txv al)) :
    FewC w2 (.agg #[.slice A1 l.length c1, .slice A2 al.length c2, .int .i64 st]) (fewV l al st) := by
  intro w' hb
  refine (few_any l al st A1 A2 c1 c2 w' (h1.below hb) (h2.below hb)).mono ?_
  rintro e w'' ⟨v, rfl, hF, hB⟩
  obtain ⟨vL, vA, rfl, hV⟩ := hF.v
  obtain ⟨AL, cL, rfl, _, _⟩ := own_form hV.L
  obtain ⟨AA, cA, rfl, _, _⟩ := own_form hV.A
  exact ⟨AL, cL, AA, cA, rfl, hid ⟨hb.size, hV, hB⟩⟩
end Go.Proofs.YtklihdlfbhgpeaaDoor

namespace Go.Proofs.YtklihdlfbhgpeaaDoor
open Go.RowKit
set_option linter.unusedVariables false

theorem envfld {S : Nat → Prop} {b : Nat} {t : TypeId} (ht : fldT t) : ¬ ME S b t := fun hh => by
  rcases ht with rfl | rfl | rfl <;> exact absurd hh.2 (by decide)
theorem FldOut.env {w w' : World} {S : Nat → Prop} {v : Value} {F : Flds} (h : FldOut w (fun _ => True) v F) (hk : Kw (ME S) w w') : FldOut w' (fun _ => True) v F := h.kw hk fun b t _ ht => envfld ht
theorem FldOut.any {w : World} {P : Nat → Prop} {v : Value} {F : Flds} (h : FldOut w P v F) : FldOut w (fun _ => True) v F := by
  obtain ⟨A, c, rows, h1, h2, h3, h4⟩ := h.row
  exact ⟨A, c, rows, h1, h2, fun _ _ _ _ => trivial, h4.mono fun _ _ _ => trivial⟩
theorem PAt.env [Inhabited LowT] {w w' : World} {S : Nat → Prop} {n : Nat} {A : Option Addr} {ps : List PartV} (h : PAt n w A ps) (hk : Kw (ME S) w w') (hS : ∀ k, k ≤ lowN → ¬ S k) : PAt n w' A ps :=
  h.kw hk (fun k hh => absurd hh.2 (by decide)) (fun k hh => absurd hh.2 (by decide)) fun k t hk hh => hS k hk hh.1
theorem Tab.env [Inhabited LowT] {w w' : World} {S : Nat → Prop} (h : Tab w) (hk : Kw (ME S) w w') (hS : ∀ k, k ≤ lowN → ¬ S k) : Tab w' := h.kw hk fun t hh => hS 0 (Nat.zero_le _) hh.1
/-- What a run of the expander hands back. -/
structure Ran (S : Nat → Prop) (Eb : Nat) (w w' : World) (o : Out) (v : Value) : Prop where
  env : EnvAt w' S Eb o.s
  kw : Kw (ME S) w w'
  fld : o.e = 0 → FldOut w' (fun _ => True) v o.F
  nil : o.e ≠ 0 → v = .slice none 0 0
theorem expand_use [Inhabited LowT] (S : Nat → Prop) (Eb : Nat) (σ : EnvV) (ps : List PartV) (A : Option Addr) (c : Nat) (w : World) (hE : EnvAt w S Eb σ) (hS0 : ∀ k, k ≤ lowN → ¬ S k) (hT : Tab w) (hP : PAt 20 w A ps) (hW : WB 20 ps σ) :
    Calls Tryd.prog 9 #[.slice A ps.length c, .iface 28 (.pointer (some ⟨Eb, 0, none⟩))] w fun e w' => ∃ v, e = .returned (.tuple #[v, .int .i64 (evalW 20 ps σ).e]) ∧ Hid (Ran S Eb w w' (evalW 20 ps σ) v) := by
  refine (expand_any S Eb σ ps A c w hE hS0 hT hP hW).mono ?_
  rintro e w' ⟨v, rfl, h1, h2, h3, h4⟩
  exact ⟨v, rfl, hid ⟨h3, h4, fun h => (h1 h).any, h2⟩⟩
/-- The words and the bounds. -/
structure Wds [Inhabited LowT] (a b : List PartV) (W : EnvV) : Prop where
  seen : W.seen = []
  ok : EnvOk W
  vars : W.vars.length ≤ 12
  cost : costW 20 (shortV 3 a ++ shortV 3 b) ≤ 99999999
section
variable [Inhabited LowT] {a b : List PartV} {W : EnvV}
theorem Wds.wb1 (h : Wds a b W) : WB 20 (shortV 3 a ++ shortV 3 b) W := ⟨h.ok, h.cost, by rw [h.seen]; have := h.cost; simp; omega, by have := h.cost; have := h.vars; omega⟩
theorem Wds.wb2 (h : Wds a b W) : WB 20 (shortV 3 a) W := by
  have hc := h.cost
  rw [costW_append] at hc
  exact ⟨h.ok, by omega, by rw [h.seen]; simp; omega, by have := h.vars; omega⟩
theorem Wds.wb3 (h : Wds a b W) : WB 20 (shortV 3 b) (evalW 20 (shortV 3 a) W).s := by
  have hc := h.cost
  rw [costW_append] at hc
  have hb := evalW_bd 20 (shortV 3 a) W h.ok
  have h1 := hb.seen
  have h2 := hb.vars
  have h3 := h.vars
  rw [h.seen] at h1
  simp only [List.length_nil] at h1
  exact ⟨hb.ok, by omega, by omega, by omega⟩
end
/-- Behind the three runs: lengths. -/
theorem evalW_len {n : Nat} {ps : List PartV} {σ : EnvV} (h : WB n ps σ) : (evalW n ps σ).F.length ≤ 100000000 ∧ wtF (evalW n ps σ).F ≤ 100000000 ∧ (evalW n ps σ).s.seen.length ≤ σ.seen.length + 100000000 := by
  have hb := evalW_bd n ps σ h.ok
  have h1 := hb.wt
  have h2 := h.wt
  have h3 := len_wtF (evalW n ps σ).F
  have h4 := hb.seen
  exact ⟨by omega, by omega, by omega⟩
/-- What is in memory before the first run. -/
structure Pre [Inhabited LowT] (w0 w : World) (B : Nat) (E1 E2 : Nat) (W : EnvV) (a b : List PartV) (A1 A2 : Option Addr) : Prop where
  two : Two B w E1 E2 W
  low : lowN < B
  lowW : lowN < w.heap.size
  tab : Tab w
  bel : Below w0.heap.size w0 w
  pa : PAt 20 w A1 (shortV 3 a)
  pb : PAt 20 w A2 (shortV 3 b)
  w0l : w0.heap.size = lowN + 1
/-- Behind the first run. -/
structure Mid [Inhabited LowT] (w0 w7 : World) (E1 E2 : Nat) (W : EnvV) (a b : List PartV) (A1 A2 : Option Addr) (v : Value) (S2 : Nat → Prop) : Prop where
  env : EnvAt w7 S2 E2 W
  S0 : ∀ k, k ≤ lowN → ¬ S2 k
  seen : ∀ w8, Kw (ME S2) w7 w8 → SeenAt w8 E1 (evalW 20 (shortV 3 a ++ shortV 3 b) W).s.seen
  fld : (evalW 20 (shortV 3 a ++ shortV 3 b) W).e = 0 → FldOut w7 (fun _ => True) v (evalW 20 (shortV 3 a ++ shortV 3 b) W).F
  nil : (evalW 20 (shortV 3 a ++ shortV 3 b) W).e ≠ 0 → v = .slice none 0 0
  tab : Tab w7
  bel : Below w0.heap.size w0 w7
  pa : PAt 20 w7 A1 (shortV 3 a)
  pb : PAt 20 w7 A2 (shortV 3 b)
  w0l : w0.heap.size = lowN + 1
theorem Pre.first [Inhabited LowT] {w0 w : World} {B E1 E2 : Nat} {W : EnvV} {a b : List PartV} {A1 A2 : Option Addr} (h : Pre w0 w B E1 E2 W a b A1 A2) (hW : Wds a b W) (A : Option Addr) (c : Nat) (hP : PAt 20 w A (shortV 3 a ++ shortV 3 b)) (n : Nat) (hn : n = (shortV 3 a ++ shortV 3 b).length) (e1 : Int) (he1 : e1 = (evalW 20 (shortV 3 a ++ shortV 3 b) W).e) :
    Calls Tryd.prog 9 #[.slice A n c, .iface 28 (.pointer (some ⟨E1, 0, none⟩))] w fun e w' => ∃ v, e = .returned (.tuple #[v, .int .i64 e1]) ∧ ∃ S2, Hid (Mid w0 w' E1 E2 W a b A1 A2 v S2) := by
  subst hn he1
  obtain ⟨S1, hE, hSB, hnext⟩ := h.two.run
  have h0 := h.low
  have h1 := h.lowW
  have hS0 : ∀ k, k ≤ lowN → ¬ S1 k := fun k hk hS => by
    rcases hSB k hS with hh | hh <;> omega
  refine (expand_use S1 E1 W _ A c w hE hS0 h.tab hP hW.wb1).mono ?_
  rintro e w' ⟨v, rfl, HRn⟩
  obtain ⟨r1, r2, r3, r4⟩ := HRn.out
  obtain ⟨S2, g1, g2, g3⟩ := hnext w' _ r1 r2
  have hb : Below w0.heap.size w0 w' := h.bel.trans (r2.toBelow h.bel.size fun k t hh => by
    have := h.w0l
    rcases hSB k hh.1 with hq | hq
    · omega
    · have := h.bel.size; omega)
  refine ⟨v, rfl, S2, hid ⟨g1, fun k hk hS => ?_, g3, r3, r4, h.tab.env r2 hS0, hb, h.pa.env r2 hS0, h.pb.env r2 hS0, h.w0l⟩⟩
  have := r2.size
  rcases g2 k hS with hh | hh <;> omega
/-- Behind the second run. -/
structure Mid2 [Inhabited LowT] (w0 w8 : World) (E1 E2 : Nat) (W : EnvV) (a b : List PartV) (A2 : Option Addr) (v y : Value) (S2 : Nat → Prop) : Prop where
  env : EnvAt w8 S2 E2 (evalW 20 (shortV 3 a) W).s
  S0 : ∀ k, k ≤ lowN → ¬ S2 k
  seen : ∀ w9, Kw (ME S2) w8 w9 → SeenAt w9 E1 (evalW 20 (shortV 3 a ++ shortV 3 b) W).s.seen
  fld : (evalW 20 (shortV 3 a ++ shortV 3 b) W).e = 0 → FldOut w8 (fun _ => True) v (evalW 20 (shortV 3 a ++ shortV 3 b) W).F
  nil : (evalW 20 (shortV 3 a ++ shortV 3 b) W).e ≠ 0 → v = .slice none 0 0
  fldy : (evalW 20 (shortV 3 a) W).e = 0 → FldOut w8 (fun _ => True) y (evalW 20 (shortV 3 a) W).F
  nily : (evalW 20 (shortV 3 a) W).e ≠ 0 → y = .slice none 0 0
  tab : Tab w8
  bel : Below w0.heap.size w0 w8
  pb : PAt 20 w8 A2 (shortV 3 b)
  w0l : w0.heap.size = lowN + 1
theorem Mid.second [Inhabited LowT] {w0 w : World} {E1 E2 : Nat} {W : EnvV} {a b : List PartV} {A1 A2 : Option Addr} {v : Value} {S2 : Nat → Prop} (h : Mid w0 w E1 E2 W a b A1 A2 v S2) (hW : Wds a b W) (c n : Nat) (hn : n = (shortV 3 a).length) (e2 : Int) (he2 : e2 = (evalW 20 (shortV 3 a) W).e) :
    Calls Tryd.prog 9 #[.slice A1 n c, .iface 28 (.pointer (some ⟨E2, 0, none⟩))] w fun e w' => ∃ y, e = .returned (.tuple #[y, .int .i64 e2]) ∧ Hid (Mid2 w0 w' E1 E2 W a b A2 v y S2) := by
  subst hn he2
  refine (expand_use S2 E2 W _ A1 c w h.env h.S0 h.tab h.pa hW.wb2).mono ?_
  rintro e w' ⟨y, rfl, HRn⟩
  obtain ⟨r1, r2, r3, r4⟩ := HRn.out
  have hb : Below w0.heap.size w0 w' := h.bel.trans (r2.toBelow h.bel.size fun k t hh => by
    have := h.w0l
    have := h.S0 k
    by_cases hk : k ≤ lowN
    · exact absurd hh.1 (this hk)
    · omega)
  exact ⟨y, rfl, hid ⟨r1, h.S0, fun w9 h9 => h.seen w9 (r2.trans h9), fun e => (h.fld e).env r2, h.nil, r3, r4, h.tab.env r2 h.S0, hb, h.pb.env r2 h.S0, h.w0l⟩⟩
/-- Behind the third run. -/
structure Mid3 [Inhabited LowT] (w0 w9 : World) (E1 E2 : Nat) (W : EnvV) (a b : List PartV) (v y z : Value) : Prop where
  seen : SeenAt w9 E1 (evalW 20 (shortV 3 a ++ shortV 3 b) W).s.seen
  seen2 : SeenAt w9 E2 (evalW 20 (shortV 3 b) (evalW 20 (shortV 3 a) W).s).s.seen
  fld : (evalW 20 (shortV 3 a ++ shortV 3 b) W).e = 0 → FldOut w9 (fun _ => True) v (evalW 20 (shortV 3 a ++ shortV 3 b) W).F
  nil : (evalW 20 (shortV 3 a ++ shortV 3 b) W).e ≠ 0 → v = .slice none 0 0
  fldy : (evalW 20 (shortV 3 a) W).e = 0 → FldOut w9 (fun _ => True) y (evalW 20 (shortV 3 a) W).F
  fldz : (evalW 20 (shortV 3 b) (evalW 20 (shortV 3 a) W).s).e = 0 → FldOut w9 (fun _ => True) z (evalW 20 (shortV 3 b) (evalW 20 (shortV 3 a) W).s).F
  nilz : (evalW 20 (shortV 3 b) (evalW 20 (shortV 3 a) W).s).e ≠ 0 → z = .slice none 0 0
  tab : Tab w9
  bel : Below w0.heap.size w0 w9
  w0l : w0.heap.size = lowN + 1
theorem Mid2.third [Inhabited LowT] {w0 w : World} {E1 E2 : Nat} {W : EnvV} {a b : List PartV} {A2 : Option Addr} {v y : Value} {S2 : Nat → Prop} (h : Mid2 w0 w E1 E2 W a b A2 v y S2) (hW : Wds a b W) (c n : Nat) (hn : n = (shortV 3 b).length) (e3 : Int) (he3 : e3 = (evalW 20 (shortV 3 b) (evalW 20 (shortV 3 a) W).s).e) :
    Calls Tryd.prog 9 #[.slice A2 n c, .iface 28 (.pointer (some ⟨E2, 0, none⟩))] w fun e w' => ∃ z, e = .returned (.tuple #[z, .int .i64 e3]) ∧ Hid (Mid3 w0 w' E1 E2 W a b v y z) := by
  subst hn he3
  refine (expand_use S2 E2 _ _ A2 c w h.env h.S0 h.tab h.pb hW.wb3).mono ?_
  rintro e w' ⟨z, rfl, HRn⟩
  obtain ⟨r1, r2, r3, r4⟩ := HRn.out
  have hb : Below w0.heap.size w0 w' := h.bel.trans (r2.toBelow h.bel.size fun k t hh => by
    have := h.w0l
    have := h.S0 k
    by_cases hk : k ≤ lowN
    · exact absurd hh.1 (this hk)
    · omega)
  exact ⟨z, rfl, hid ⟨h.seen _ r2, r1.seenAt, fun e => (h.fld e).env r2, h.nil, fun e => (h.fldy e).env r2, r3, r4, h.tab.env r2 h.S0, hb, h.w0l⟩⟩
/-- Before the first run: the word put together. -/
theorem pre_made [Inhabited LowT] {w0 w2 wc w5 w6 : World} {B1 B2 E1 E2 : Nat} {W : EnvV} {a b : List PartV} {A1 A2 : Option Addr} {d1 d2 : Nat} {l1 l2 : List PartL} {vx vy : Value}
    (hT : Tab w0) (hw0 : w0.heap.size = lowN + 1) (hb02 : Below w0.heap.size w0 w2) (hlow : lowN < w2.heap.size) (h1 : SAt 3 w2 B1 (.slice A1 l1.length d1) l1) (e1 : l1.map PartL.p = shortV 3 a) (h2 : SAt 3 w2 B2 (.slice A2 l2.length d2) l2) (e2 : l2.map PartL.p = shortV 3 b)
    (hb2c : Below w2.heap.size w2 wc) (htw : Two w2.heap.size wc E1 E2 W)
    (hx5 : w5.ownsRow wc.heap.size 47 6 vx (0 + l1.length) ([] ++ l1.flatMap PartL.cells)) (hb5 : Below wc.heap.size wc w5)
    (hx6 : w6.ownsRow wc.heap.size 47 6 vy (0 + l1.length + l2.length) ([] ++ l1.flatMap PartL.cells ++ l2.flatMap PartL.cells)) (hg6 : w5.grownBy w6 vx.ownBlock) (n : Nat) (hn : n = (shortV 3 a ++ shortV 3 b).length) :
    ∃ A c, vy = .slice A n c ∧ Hid (PAt 20 w6 A (shortV 3 a ++ shortV 3 b) ∧ Pre w0 w6 w2.heap.size E1 E2 W a b A1 A2) := by
  subst hn
  have hk6 : Kw (fun k t => vx.ownBlock = some k ∧ t = 47) w5 w6 := Kw.grown hg6 fun r hr => by
    obtain ⟨cur, hc⟩ := own_cells hx5 hr
    exact ⟨cur, 47, (0, 0), hc, hr, rfl⟩
  have hb6 : Below wc.heap.size wc w6 := hb5.trans (hk6.toBelow hb5.size fun k t hh => fown_above hx5 hh.1)
  have hb26 : Below w2.heap.size w2 w6 := hb2c.trans (hb6.mono hb2c.size)
  rw [Nat.zero_add, List.nil_append] at hx6
  obtain ⟨A, c, rfl, hP⟩ := two_words h1 e1 h2 e2 hb26 hx6
  obtain ⟨A1', c1', hv1, hp1⟩ := h1.pat e1
  obtain ⟨A2', c2', hv2, hp2⟩ := h2.pat e2
  injection hv1 with hv1
  injection hv2 with hv2
  subst hv1 hv2
  have s1 := hb26.size
  have hb06 : Below w0.heap.size w0 w6 := hb02.trans (hb26.mono hb02.size)
  exact ⟨A, c, rfl, hid ⟨hP, htw.below hb6, hlow, by omega, hT.below hb06, hb06, hp1.kw (M := fun _ _ => False) (Kw.below hb26) (fun _ h => h) (fun _ h => h) (fun _ _ _ h => h), hp2.kw (M := fun _ _ => False) (Kw.below hb26) (fun _ h => h) (fun _ h => h) (fun _ _ _ h => h), hw0⟩⟩
theorem own_zero {w : World} : (w.alloc (.cells #[] 47)).ownsRow w.heap.size 47 6 (.slice (some ⟨w.heap.size, 0, none⟩) 0 0) 0 [] :=
  ⟨rfl, .inr ⟨w.heap.size, 0, #[], rfl, Nat.le_refl _, heap_alloc_new w _, Nat.le_refl _, Nat.zero_le _, rfl, rfl⟩⟩
/-- Behind the first append. -/
theorem app_below {w wa w5 : World} {v : Value} {n : Nat} {xs : List Value} {B : Nat} (hb : Below B w wa) (hB : B ≤ w.heap.size) (hx : wa.ownsRow B 47 6 v n xs) (hg : wa.grownBy w5 v.ownBlock) : Below B w w5 := by
  have hk : Kw (fun k t => v.ownBlock = some k ∧ t = 47) wa w5 := Kw.grown hg fun r hr => by
    obtain ⟨cur, hc⟩ := own_cells hx hr
    exact ⟨cur, 47, (0, 0), hc, hr, rfl⟩
  exact hb.trans (hk.toBelow (Nat.le_trans hB hb.size) fun k t hh => fown_above hx hh.1)
/-- What two words come to, one behind the other. -/
theorem joins_law (a b : List PartV) (W : EnvV) : ((evalW 20 a W).e ≠ 0 → (evalW 20 (a ++ b) W).e = (evalW 20 a W).e) ∧
    ((evalW 20 a W).e = 0 → (evalW 20 (a ++ b) W).e = (evalW 20 b (evalW 20 a W).s).e ∧ (evalW 20 (a ++ b) W).s = (evalW 20 b (evalW 20 a W).s).s ∧
      ((evalW 20 b (evalW 20 a W).s).e = 0 → (evalW 20 (a ++ b) W).F = joinF (evalW 20 a W).F (evalW 20 b (evalW 20 a W).s).F ∧ (evalW 20 a W).F ≠ [] ∧ (evalW 20 b (evalW 20 a W).s).F ≠ [])) := by
  have h := evalW_append 19 a b W
  refine ⟨fun h1 => by rw [h, if_neg h1], fun h1 => ?_⟩
  rw [if_pos h1] at h
  rw [h]
  refine ⟨rfl, rfl, fun h2 => ⟨?_, evalL_ne _ _ a [[]] W (by simp) h1, evalL_ne _ _ b [[]] _ (by simp) h2⟩⟩
  simp only []
  rw [if_pos h2]
end Go.Proofs.YtklihdlfbhgpeaaDoor
