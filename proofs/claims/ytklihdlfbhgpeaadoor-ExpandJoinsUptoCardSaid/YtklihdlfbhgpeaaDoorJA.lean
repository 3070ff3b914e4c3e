/-
  For ExpandJoins: texts alike; drawn regions; few's and short's lists and states in memory; arguments opened; two environments side by side. No conditions.
-/
import Derived.Test.YtklihdlfbhgpeaaDoorE1
import Derived.BigQuiet
import Derived.Deep.RegionHeld
import Derived.Test.YtklihdlfbhgpeaaDoorBnd
import Derived.Test.YtklihdlfbhgpeaaDoorE6
import Derived.Test.YtklihdlfbhgpeaaDoorRows
import Derived.Deep.Slices
import Derived.Deep.Fields
import Derived.Test.YtklihdlfbhgpeaaDoorE21
import Derived.Test.YtklihdlfbhgpeaaDoorMem
namespace Go.Proofs.YtklihdlfbhgpeaaDoor
open Go.RowKit
set_option linter.unusedVariables false

theorem cell_blw {w w1 : World} {a : Addr} {v : Value} (h : w.cell? a = some v) (hb : Below w.heap.size w w1) : w1.cell? a = some v := by
  have hlt : a.block < w.heap.size := by
    cases h1 : w.heap[a.block]? with
    | none => simp [World.cell?, h1] at h
    | some o => exact (Array.getElem?_eq_some_iff.1 h1).1
  rw [hb.cell hlt, h]
theorem beq_drwN (w : World) (n : Nat) : Below w.heap.size w (w.drewN n) := ⟨rfl, rfl, rfl, Nat.le_refl _, fun _ _ => rfl⟩
set_option maxRecDepth 100000 in
set_option maxHeartbeats 4000000 in
theorem texts_same (a : List Str) (A1 A2 : Option Addr) (c1 c2 : Nat) (w : World) (h1 : TR w 9 1 A1 a.length (txv a)) (h2 : TR w 9 1 A2 a.length (txv a)) (hn : a.length ≤ 1000000000) :
    Calls Tryd.prog 11 #[.slice A1 a.length c1, .slice A2 a.length c2] w fun e w' => e = .returned (.bool true) ∧ Below w.heap.size w w' := by
  have H1 := hid h1.rc
  have H2 := hid h2.rc
  have hnI : (a.length : Int) ≤ 1000000000 := by omega
  clear h1 h2
  go_enter Tryd.func11, Tryd.ntmps11
  go_wp2_with fail
  go_loopg [5] a.length (fun m v5 wr => ∃ i : Nat, m + i = a.length ∧ v5 = .int .i64 i ∧ Hid (Below w.heap.size w wr))
  case atStart => exact ⟨0, by omega, rfl, hid (Below.refl _ _)⟩
  case round =>
    obtain ⟨i, hm, rfl, HQ⟩ := hrel
    have HM := hid hm
    clear hm
    by_cases hi : i < a.length
    · have hiI : (i : Int) < (a.length : Int) := by omega
      obtain ⟨b1, off1, hA1, hb1, hc1⟩ := H1.out.2 (by omega)
      subst hA1
      obtain ⟨b2, off2, hA2, hb2, hc2⟩ := H2.out.2 (by omega)
      subst hA2
      have x1 := cell_blw (hc1 i _ (txv_get a i hi)) HQ.out
      have x2 := cell_blw (hc2 i _ (txv_get a i hi)) HQ.out
      generalize a.getD i [] = s at x1 x2
      clear hc1 hc2 hb1 hb2
      go_wp2_with fail
      go_quiet (fail)
      go_wp2_with fail
      go_roundg (gk - 1)
      case measure =>
        go_light
        have := HM.out
        omega
      case rel =>
        go_light
        exact ⟨i + 1, by have := HM.out; omega, int_cast (by omega), hid (HQ.out.trans ((beq_drwN _ _).mono HQ.out.size))⟩
    · have hia : i = a.length := by have := HM.out; omega
      subst hia
      clear hi
      go_wp2_with fail
      go_ret
      exact ⟨rfl, HQ.out⟩
end Go.Proofs.YtklihdlfbhgpeaaDoor

namespace Go.Proofs.YtklihdlfbhgpeaaDoor
open Go
set_option linter.unusedVariables false

section
variable {P : Program} {md : Region.Mode} {ops : Array Oper} {Q : Exit → Act → World → Prop} {q : Nat} {S : Bool → World → Prop}
/-- Whatever order is picked from here on, and S holds behind every operation; S may turn when number q is done. -/
def wpAnyG (P : Program) (md : Region.Mode) (ops : Array Oper) (Q : Exit → Act → World → Prop) (q : Nat) (S : Bool → World → Prop) : Nat → Array Bool → Act → World → Prop
  | 0, listed, a, w => Region.ready md ops listed = [] ∧ Q .normal a w
  | fuel + 1, listed, a, w =>
    (Region.ready md ops listed = [] → Q .normal a w) ∧
    ∀ i ∈ Region.ready md ops listed, wpOp P ops Q i (fun a' w' => S ((listed.setIfInBounds i true).getD q false) w' ∧ wpAnyG P md ops Q q S fuel (listed.setIfInBounds i true) a' w') a w
theorem wpAny_of_G : ∀ (fuel : Nat) (listed : Array Bool) (a : Act) (w : World), wpAnyG P md ops Q q S fuel listed a w → wpAny P md ops Q fuel listed a w
  | 0, _, _, _, h => h
  | fuel + 1, _, _, _, h => ⟨h.1, fun i hi => wpOp_mono (fun a' w' h' => wpAny_of_G fuel _ a' w' h'.2) (h.2 i hi)⟩
theorem cell_alloc {w : World} {a : Addr} {v : Value} (h : w.cell? a = some v) (o : Obj) : (w.alloc o).cell? a = some v := (World.cell?_alloc_some w a o (by rw [h]; rfl)).trans h
theorem getD_setO {d : Array Bool} {i q : Nat} (h : i ≠ q) : (d.setIfInBounds i true).getD q false = d.getD q false := by
  simp only [Array.getD, Array.size_setIfInBounds]
  split
  · exact Array.getElem_setIfInBounds_ne _ h
  · rfl
/-- An operation that reads is taken first: it reads the same in every world that S gives; or number q waits for it, and it reads the same till then. -/
theorem wpAnyG_first {i : Nat} {oi : Oper} {v : Value} {T : World → Prop} (hi : ops[i]? = some oi) (hiq : i ≠ q) (hsel : ∀ (j : Nat) (o : Oper) cs b, ops[j]? = some o → o.op ≠ .select cs b)
    (hQ : ∀ c a w, Q (.panic c) (a.put oi.dst v) w → Q (.panic c) a w) (c : Bool)
    (hT : ∀ b w, (c = true → b = false) → S b w → T w) (hc : c = true → ∃ oq e, ops[q]? = some oq ∧ e ∈ oq.after ∧ Region.binds md e = true ∧ e.on = i) :
    ∀ (fuel : Nat) (listed : Array Bool) (a : Act) (w : World), (c = true → listed.getD q false = false) →
      (∀ j oj, ops[j]? = some oj → j ≠ i → listed.getD j true = false → (∀ e ∈ oj.after, Region.binds md e = true → e.on ≠ i) → oi.apart ops oj = true) →
      i ∈ Region.ready md ops listed → YieldsIf P ops T oi v a → S (listed.getD q false) w →
      wpAnyG P md ops Q q S fuel (listed.setIfInBounds i true) (a.put oi.dst v) w → wpAnyG P md ops Q q S (fuel + 1) listed a w := by
  intro fuel
  induction fuel with
  | zero =>
    intro listed a w hlq hfree hr hy hS H
    refine ⟨fun h => (by rw [h] at hr; cases hr), fun j hj => ?_⟩
    by_cases hji : j = i
    · subst hji; exact hy.wpOp hi (hT _ _ hlq hS) ⟨by rw [getD_setO hiq]; exact hS, H⟩
    · have := ready_mono hj hji
      rw [H.1] at this
      cases this
  | succ fuel ih =>
    intro listed a w hlq hfree hr hy hS H
    refine ⟨fun h => (by rw [h] at hr; cases hr), fun j hj => ?_⟩
    by_cases hji : j = i
    · subst hji; exact hy.wpOp hi (hT _ _ hlq hS) ⟨by rw [getD_setO hiq]; exact hS, H⟩
    · have h1 := H.2 j (ready_mono hj hji)
      obtain ⟨hjun, oj, hoj, hall⟩ := mem_ready.1 hj
      have hnot : ∀ e ∈ oj.after, Region.binds md e = true → e.on ≠ i := fun e he hb heq => by
        have h1 := hall e he hb
        have h0 := (mem_ready.1 hr).1
        rw [heq] at h1
        rcases Nat.lt_or_ge i listed.size with h' | h'
        · simp [h'] at h0 h1; rw [h0] at h1; cases h1
        · simp [Array.getElem?_eq_none h'] at h1
      have hjq : c = true → j ≠ q := fun e hjq => by
        obtain ⟨oq, e1, h2, h3, h4, h5⟩ := hc e
        subst hjq
        rw [hoj] at h2
        injection h2 with h2
        subst h2
        exact hnot e1 h3 h4 h5
      have h2 := wpOp_putIf hoj (hfree j oj hoj hji hjun hnot) (fun cs b => hsel i oi cs b hi) (fun cs b => hsel j oj cs b hoj) hQ hy h1
      have hfree' : ∀ k ok, ops[k]? = some ok → k ≠ i → (listed.setIfInBounds j true).getD k true = false →
          (∀ e ∈ ok.after, Region.binds md e = true → e.on ≠ i) → oi.apart ops ok = true := fun k ok hk hki hun hno => by
        refine hfree k ok hk hki ?_ hno
        by_cases hjk : j = k
        · subst hjk; exact hjun
        · rw [getD_set_ne true hjk] at hun; exact hun
      have hcomm : (listed.setIfInBounds i true).setIfInBounds j true = (listed.setIfInBounds j true).setIfInBounds i true := (Array.setIfInBounds_comm _ _ hji).symm
      have hbit : ((listed.setIfInBounds i true).setIfInBounds j true).getD q false = (listed.setIfInBounds j true).getD q false := by
        rw [hcomm, getD_setO hiq]
      rw [hbit] at h2
      refine wpOp_mono (fun a' w' h3 => ⟨h3.2.1, ih (listed.setIfInBounds j true) a' w' (fun e => by rw [getD_setO (hjq e)]; exact hlq e) hfree' (ready_mono hr (Ne.symm hji)) h3.1 h3.2.1 ?_⟩) h2
      rw [← hcomm]
      exact h3.2.2
/-- It reads the same in every world that S gives. -/
theorem wpAnyG_take {i : Nat} {oi : Oper} {v : Value} {T : World → Prop} {fuel : Nat} {listed : Array Bool} {a : Act} {w : World} (hi : ops[i]? = some oi)
    (hs : (Region.noSelect ops && Region.free md ops listed i && (Region.ready md ops listed).contains i && decide (i ≠ q)) = true)
    (hQ : ∀ c a w, Q (.panic c) (a.put oi.dst v) w → Q (.panic c) a w) (hT : ∀ b w, S b w → T w) (hy : YieldsIf P ops T oi v a) (hS : S (listed.getD q false) w)
    (h : wpAnyG P md ops Q q S fuel (listed.setIfInBounds i true) (a.put oi.dst v) w) : wpAnyG P md ops Q q S (fuel + 1) listed a w := by
  simp only [Bool.and_eq_true, decide_eq_true_eq] at hs
  exact wpAnyG_first hi hs.2 (Region.noSelect_spec hs.1.1.1) hQ false (fun b w _ => hT b w) (fun e => by cases e) fuel listed a w (fun e => by cases e) (Region.free_spec hi hs.1.1.2) (by simpa using hs.1.2) hy hS h
/-- It reads the same till number q is done, and that waits for it. -/
theorem wpAnyG_takeq {i : Nat} {oi : Oper} {v : Value} {T : World → Prop} {fuel : Nat} {listed : Array Bool} {a : Act} {w : World} (hi : ops[i]? = some oi)
    (hs : (Region.noSelect ops && Region.free md ops listed i && (Region.ready md ops listed).contains i && decide (i ≠ q)) = true)
    (hq : (((ops[q]?).map fun o => o.after.any fun e => Region.binds md e && decide (e.on = i)).getD false && !listed.getD q false) = true)
    (hQ : ∀ c a w, Q (.panic c) (a.put oi.dst v) w → Q (.panic c) a w) (hT : ∀ w, S false w → T w) (hy : YieldsIf P ops T oi v a) (hS : S (listed.getD q false) w)
    (h : wpAnyG P md ops Q q S fuel (listed.setIfInBounds i true) (a.put oi.dst v) w) : wpAnyG P md ops Q q S (fuel + 1) listed a w := by
  simp only [Bool.and_eq_true, decide_eq_true_eq, Bool.not_eq_true'] at hs hq
  refine wpAnyG_first hi hs.2 (Region.noSelect_spec hs.1.1.1) hQ true (fun b w e => by rw [e rfl]; exact hT w) (fun _ => ?_) fuel listed a w (fun _ => hq.2) (Region.free_spec hi hs.1.1.2) (by simpa using hs.1.2) hy hS h
  have h1 := hq.1
  cases ho : ops[q]? with
  | none => rw [ho] at h1; cases h1
  | some oq =>
    rw [ho] at h1
    simp only [Option.map_some, Option.getD_some, Array.any_eq_true', Bool.and_eq_true, decide_eq_true_eq] at h1
    obtain ⟨e, he, hb, hon⟩ := h1
    exact ⟨oq, e, rfl, he, hb, hon⟩
/-- The one operation that may come up. -/
theorem wpAnyG_one {i : Nat} {o : Oper} {fuel : Nat} {listed : Array Bool} {a : Act} {w : World} (ho : ops[i]? = some o) (hr : Region.ready md ops listed = [i])
    (h : ∀ K' : Act → World → Prop, Shut (∀ a w, S ((listed.setIfInBounds i true).getD q false) w ∧ wpAnyG P md ops Q q S fuel (listed.setIfInBounds i true) a w → K' a w) → if Region.wanted o (yielded ops a.tmps) = true then Oper.wp P o a w K' Q else K' (a.put o.dst undef) w) :
    wpAnyG P md ops Q q S (fuel + 1) listed a w := by
  refine ⟨fun h0 => absurd (hr ▸ h0) (by simp), fun j hj => ?_⟩
  rw [hr] at hj
  obtain rfl : j = i := by simpa using hj
  exact wpOp_step ho (fun K' hK => h K' hK)
/-- As a step of a walk: the operation's place, its temporary, the bit of S. -/
theorem wpAnyG_t {oi : Oper} {v : Value} {fuel : Nat} {listed : Array Bool} {a : Act} {w : World} (i : Nat) (dst : Option Tmp) (b : Bool) (T : World → Prop) (hi : ops[i]? = some oi) (hd : oi.dst = dst)
    (hs : (Region.noSelect ops && Region.free md ops listed i && (Region.ready md ops listed).contains i && decide (i ≠ q) && (listed.getD q false == b)) = true)
    (hQ : ∀ c a w, Q (.panic c) (a.put oi.dst v) w → Q (.panic c) a w) (hT : ∀ b w, S b w → T w) (hS : S b w) (hy : YieldsIf P ops T oi v a)
    (h : wpAnyG P md ops Q q S fuel (listed.setIfInBounds i true) (a.put dst v) w) : wpAnyG P md ops Q q S (fuel + 1) listed a w := by
  subst hd
  rw [Bool.and_eq_true, beq_iff_eq] at hs
  rw [← hs.2] at hS
  exact wpAnyG_take hi hs.1 hQ hT hy hS h
theorem wpAnyG_tq {oi : Oper} {v : Value} {fuel : Nat} {listed : Array Bool} {a : Act} {w : World} (i : Nat) (dst : Option Tmp) (T : World → Prop) (hi : ops[i]? = some oi) (hd : oi.dst = dst)
    (hs : (Region.noSelect ops && Region.free md ops listed i && (Region.ready md ops listed).contains i && decide (i ≠ q)) = true)
    (hq : (((ops[q]?).map fun o => o.after.any fun e => Region.binds md e && decide (e.on = i)).getD false && !listed.getD q false) = true)
    (hQ : ∀ c a w, Q (.panic c) (a.put oi.dst v) w → Q (.panic c) a w) (hT : ∀ w, S false w → T w) (hS : S false w) (hy : YieldsIf P ops T oi v a)
    (h : wpAnyG P md ops Q q S fuel (listed.setIfInBounds i true) (a.put dst v) w) : wpAnyG P md ops Q q S (fuel + 1) listed a w := by
  subst hd
  refine wpAnyG_takeq hi hs hq hQ hT hy ?_ h
  rw [Bool.and_eq_true, Bool.not_eq_true'] at hq
  rw [hq.2]
  exact hS
theorem wpAnyG_o {o : Oper} {fuel : Nat} {listed : Array Bool} {a : Act} {w : World} (i : Nat) (b : Bool) (ho : ops[i]? = some o) (hr : Region.ready md ops listed = [i]) (hb : (listed.setIfInBounds i true).getD q false = b)
    (h : ∀ K' : Act → World → Prop, Shut (∀ a w, S b w → wpAnyG P md ops Q q S fuel (listed.setIfInBounds i true) a w → K' a w) → if Region.wanted o (yielded ops a.tmps) = true then Oper.wp P o a w K' Q else K' (a.put o.dst undef) w) :
    wpAnyG P md ops Q q S (fuel + 1) listed a w := wpAnyG_one ho hr fun K' hK => h K' fun a w hS hW => hK a w ⟨hb ▸ hS, hW⟩
theorem wpAnyG_done {listed : Array Bool} {a : Act} {w : World} (hr : Region.ready md ops listed = []) (h : Q .normal a w) : ∀ fuel, wpAnyG P md ops Q q S fuel listed a w
  | 0 => ⟨hr, h⟩
  | _ + 1 => ⟨fun _ => h, by rw [hr]; simp⟩
theorem wp_region_G {id : Nat} {a : Act} {w : World} (q : Nat) (S : Bool → World → Prop) (hm : P.follows .mixedOrders = true)
    (h : wpAnyG P .any ops Q q S ops.size (Array.replicate ops.size false) a w.drew) : (Code.region id ops true).wp P Q a w :=
  wp_region_any hm (wpAny_of_G _ _ _ _ h)
end
end Go.Proofs.YtklihdlfbhgpeaaDoor

namespace Go.Proofs.YtklihdlfbhgpeaaDoor
open Go.RowKit
set_option linter.unusedVariables false

def cut60 (s : Str) : Str := s.take 60
def fewL (l : List (Str × Str)) (k : Nat) : List (Str × Str) := (l.take k).map fun v => (cut60 v.1, cut60 v.2)
def fewA (l : List Str) (k : Nat) : List Str := (l.take k).map cut60
theorem fewL_succ (l : List (Str × Str)) (k : Nat) (h : k < l.length) : fewL l (k + 1) = fewL l k ++ [(cut60 (l.getD k ([], [])).1, cut60 (l.getD k ([], [])).2)] := by
  unfold fewL
  rw [List.take_succ_eq_append_getElem h, List.map_append]
  simp [List.getD, List.getElem?_eq_getElem h]
theorem fewA_succ (l : List Str) (k : Nat) (h : k < l.length) : fewA l (k + 1) = fewA l k ++ [cut60 (l.getD k [])] := by
  unfold fewA
  rw [List.take_succ_eq_append_getElem h, List.map_append]
  simp [List.getD, List.getElem?_eq_getElem h]
theorem fewL_length (l : List (Str × Str)) (k : Nat) (h : k ≤ l.length) : (fewL l k).length = k := by simp [fewL]; omega
theorem fewA_length (l : List Str) (k : Nat) (h : k ≤ l.length) : (fewA l k).length = k := by simp [fewA]; omega
theorem cut_min (s : Str) (m n : Nat) (h : m = min s.length n) : s.take m = s.take n := by
  subst h
  by_cases e : s.length ≤ n
  · rw [Nat.min_eq_left e, List.take_length, List.take_of_length_le e]
  · rw [Nat.min_eq_right (by omega)]
theorem fown_above {w : World} {B t k n : Nat} {v : Value} {xs : List Value} (h : w.ownsRow B t k v n xs) {r : Nat} (hr : v.ownBlock = some r) : B ≤ r := by
  rcases h.2 with ⟨rfl, rfl⟩ | ⟨g, cap, cur, rfl, hb, _⟩
  · cases hr
  · obtain rfl : g = r := by simpa [Value.ownBlock] using hr
    exact hb
/-- The loop's state: what came in (block B), the outcome's cell (B + 1), the outcome that grows (B + 2), its two rows. -/
structure FI (w0 w : World) (src : Array Value) (st : Int) (lv : List (Str × Str)) (la : List Str) (vL vA : Value) : Prop where
  bel : Below w0.heap.size w0 w
  src : At w w0.heap.size 26 src
  res : At w (w0.heap.size + 1) 26 #[.slice none 0 0, .slice none 0 0, .int .i64 0]
  box : At w (w0.heap.size + 1 + 1) 26 #[vL, vA, .int .i64 st]
  vars : w.ownsRow (w0.heap.size + 3) 44 2 vL lv.length (vrv lv)
  args : w.ownsRow (w0.heap.size + 3) 9 1 vA la.length (txv la)
section
variable {w0 w w2 w3 : World} {src : Array Value} {st : Int} {lv : List (Str × Str)} {la : List Str} {vL vA v' : Value}
theorem FI.below (h : FI w0 w src st lv la vL vA) (hb : Below w.heap.size w w2) : FI w0 w2 src st lv la vL vA :=
  ⟨h.bel.trans (hb.mono h.bel.size), h.src.below hb h.src.lt, h.res.below hb h.res.lt, h.box.below hb h.box.lt, own_kw h.vars (Kw.below (M := fun _ _ => False) hb) fun _ _ h => h, own_kw h.args (Kw.below (M := fun _ _ => False) hb) fun _ _ h => h⟩
theorem FI.storeL (x : Str × Str) (h : FI w0 w src st lv la vL vA) (hb : Below w.heap.size w w2)
    (h3 : w3.ownsRow (w0.heap.size + 3) 44 2 v' (lv.length + 1) (vrv lv ++ [.string ⟨x.1.toArray⟩, .string ⟨x.2.toArray⟩])) (hg : w2.grownBy w3 vL.ownBlock) :
    ∃ A c, v' = .slice A (lv.length + 1) c ∧ w3.cell? ⟨w0.heap.size + 1 + 1, 0, none⟩ = some vL ∧ w3.frozen? ⟨w0.heap.size + 1 + 1, 0, none⟩ = false ∧
      Hid (FI w0 (w3.setCell ⟨w0.heap.size + 1 + 1, 0, none⟩ (.slice A (lv.length + 1) c)) src st (lv ++ [x]) la (.slice A (lv.length + 1) c) vA) := by
  have h2 := h.below hb
  have hk : Kw (fun k t => vL.ownBlock = some k ∧ t = 44) w2 w3 := Kw.grown hg fun r hr => by
    obtain ⟨cur, hc⟩ := own_cells h2.vars hr
    exact ⟨cur, 44, (0, 0), hc, hr, rfl⟩
  have hb3 := hk.at_ h2.box (fun hh => absurd hh.2 (by decide))
  obtain ⟨A, c, rfl, _, _⟩ := own_form h3
  have hk4 : Kw (fun k t => k = w0.heap.size + 1 + 1 ∧ t = 26) w3 (w3.setCell ⟨w0.heap.size + 1 + 1, 0, none⟩ (.slice A (lv.length + 1) c)) := (Kw.refl _ _).set hb3 ⟨rfl, rfl⟩ 0 _
  have hbel3 : Below w0.heap.size w0 w3 := h2.bel.trans (hk.toBelow h2.bel.size fun k t hh => by
    have := fown_above h2.vars hh.1
    omega)
  refine ⟨A, c, rfl, by rw [hb3.cell]; rfl, hb3.frozen 0, hid ⟨hbel3.trans (hk4.toBelow hbel3.size fun k t hh => by omega), hk4.at_ (hk.at_ h2.src (fun hh => absurd hh.2 (by decide))) (fun hh => by omega), hk4.at_ (hk.at_ h2.res (fun hh => absurd hh.2 (by decide))) (fun hh => by omega), hb3.set 0 _, ?_, own_kw (own_kw h2.args hk fun r _ hh => absurd hh.2 (by decide)) hk4 fun r _ hh => absurd hh.2 (by decide)⟩⟩
  rw [List.length_append, vrv_snoc]
  exact own_kw h3 hk4 fun r _ hh => absurd hh.2 (by decide)
theorem FI.storeA (x : Str) (h : FI w0 w src st lv la vL vA) (hb : Below w.heap.size w w2)
    (h3 : w3.ownsRow (w0.heap.size + 3) 9 1 v' (la.length + 1) (txv la ++ [.string ⟨x.toArray⟩])) (hg : w2.grownBy w3 vA.ownBlock) :
    ∃ A c, v' = .slice A (la.length + 1) c ∧ w3.cell? ⟨w0.heap.size + 1 + 1, 1, none⟩ = some vA ∧ w3.frozen? ⟨w0.heap.size + 1 + 1, 1, none⟩ = false ∧
      Hid (FI w0 (w3.setCell ⟨w0.heap.size + 1 + 1, 1, none⟩ (.slice A (la.length + 1) c)) src st lv (la ++ [x]) vL (.slice A (la.length + 1) c)) := by
  have h2 := h.below hb
  have hk : Kw (fun k t => vA.ownBlock = some k ∧ t = 9) w2 w3 := Kw.grown hg fun r hr => by
    obtain ⟨cur, hc⟩ := own_cells h2.args hr
    exact ⟨cur, 9, (0, 0), hc, hr, rfl⟩
  have hb3 := hk.at_ h2.box (fun hh => absurd hh.2 (by decide))
  obtain ⟨A, c, rfl, _, _⟩ := own_form h3
  have hk4 : Kw (fun k t => k = w0.heap.size + 1 + 1 ∧ t = 26) w3 (w3.setCell ⟨w0.heap.size + 1 + 1, 1, none⟩ (.slice A (la.length + 1) c)) := (Kw.refl _ _).set hb3 ⟨rfl, rfl⟩ 1 _
  have hbel3 : Below w0.heap.size w0 w3 := h2.bel.trans (hk.toBelow h2.bel.size fun k t hh => by
    have := fown_above h2.args hh.1
    omega)
  refine ⟨A, c, rfl, by rw [hb3.cell]; rfl, hb3.frozen 1, hid ⟨hbel3.trans (hk4.toBelow hbel3.size fun k t hh => by omega), hk4.at_ (hk.at_ h2.src (fun hh => absurd hh.2 (by decide))) (fun hh => by omega), hk4.at_ (hk.at_ h2.res (fun hh => absurd hh.2 (by decide))) (fun hh => by omega), hb3.set 1 _, own_kw (own_kw h2.vars hk fun r _ hh => absurd hh.2 (by decide)) hk4 fun r _ hh => absurd hh.2 (by decide), ?_⟩⟩
  rw [List.length_append, txv_snoc]
  exact own_kw h3 hk4 fun r _ hh => absurd hh.2 (by decide)
end
theorem cell_heap {w w' : World} {a : Addr} (h : w'.heap[a.block]? = w.heap[a.block]?) : w'.cell? a = w.cell? a := by unfold World.cell?; rw [h]
/-- A cell below the rows stays while a row grows. -/
theorem few_keep {w0 w w2 w3 : World} {src : Array Value} {st : Int} {lv : List (Str × Str)} {la : List Str} {vL vA : Value} (h : FI w0 w src st lv la vL vA) (hg : w2.grownBy w3 vA.ownBlock) (ad : Addr) (v : Value) (hb : ad.block < w0.heap.size + 3) (hv : w2.cell? ad = some v) : w3.cell? ad = some v := by
  have hlt := World.block_lt_of_cell? w2 ad hv
  rw [cell_heap (hg.block ad.block hlt (fun e => ?_)), hv]
  have := fown_above h.args e.symm
  omega
theorem fewL_min (l : List (Str × Str)) (k : Nat) (h : k = min l.length 12) : fewL l k = fewL l 12 := by
  unfold fewL
  congr 1
  subst h
  by_cases e : l.length ≤ 12
  · rw [Nat.min_eq_left e, List.take_length, List.take_of_length_le e]
  · rw [Nat.min_eq_right (by omega)]
theorem fewA_min (l : List Str) (k : Nat) (h : k = min l.length 12) : fewA l k = fewA l 12 := by
  unfold fewA
  congr 1
  subst h
  by_cases e : l.length ≤ 12
  · rw [Nat.min_eq_left e, List.take_length, List.take_of_length_le e]
  · rw [Nat.min_eq_right (by omega)]
/-- What few hands back: two rows of its own. -/
def FewAt (B : Nat) (w : World) (v : Value) (l : List (Str × Str)) (al : List Str) (st : Int) : Prop :=
  ∃ vL vA, v = .agg #[vL, vA, .int .i64 st] ∧ w.ownsRow B 44 2 vL l.length (vrv l) ∧ w.ownsRow B 9 1 vA al.length (txv al)
theorem few_res {w : World} {g : Nat} {x y z : Value} (h : At w g 26 #[x, y, z]) (a b c : Value) :
    At (((w.setCell ⟨g, 0, none⟩ a).setCell ⟨g, 1, none⟩ b).setCell ⟨g, 2, none⟩ c) g 26 #[a, b, c] ∧ Kw (fun k t => k = g ∧ t = 26) w (((w.setCell ⟨g, 0, none⟩ a).setCell ⟨g, 1, none⟩ b).setCell ⟨g, 2, none⟩ c) := by
  have h1 := h.set 0 a
  have h2 := h1.set 1 b
  have h3 := h2.set 2 c
  exact ⟨h3, (((Kw.refl _ _).set h ⟨rfl, rfl⟩ 0 a).set h1 ⟨rfl, rfl⟩ 1 b).set h2 ⟨rfl, rfl⟩ 2 c⟩
section
variable {P : Program} {w : World} {ops : Array Oper} {a : Act} {Q : Exit → Act → World → Prop} {K : Act → World → Prop} {E : Prop}
/-- append onto a row of the call's own, as a step of a region that draws its order: at the append alone. -/
theorem step_append_at {dst : Option Tmp} {s x : Operand} {t : TypeId} {ty : TypeId} {pos : String} {after : Array Edge} (base : Nat) (e : TypeId) (i : TypeInfo) (z : Value) (size bytes : Nat)
    (ht : P.underlying t = some (.slice e)) (hi : P.info? e = some i) (hz : i.zero = some z) (hsize : i.size = size) (hby : i.bytes = bytes) (hzs : z.cells.size = size) (hsz : 0 < size)
    (v : Value) (n : Nat) (xs : List Value) (hs : a.eval s = v) (hown : w.ownsRow base e size v n xs)
    (ad : Addr) (m c : Nat) (news : List Value) (hx : a.eval x = .slice (some ad) m c) (hl : news.length = m * size) (hnews : ∀ j u, news[j]? = some u → w.cell? (ad.add j) = some u) (h1 : ∀ u ∈ news, u.oneCell' = true)
    (h63 : n + m ≤ maxLen) (hbytes : (n + m) * bytes ≤ 140737488355328) (hbase : base ≤ w.heap.size)
    (h : ∀ v' w', w'.ownsRow base e size v' (n + m) (xs ++ news) → w.grownBy w' v.ownBlock → (v'.ownBlock = v.ownBlock ∨ v'.ownBlock = some w.heap.size) → K (a.put dst v') w') :
    if Region.wanted ({ dst := dst, op := .call { callee := .builtin .append, args := #[s, x], argTypes := #[t, t] }, type := ty, pos := pos, after := after, guard := none } : Oper) (yielded ops a.tmps) = true then Oper.wp P { dst := dst, op := .call { callee := .builtin .append, args := #[s, x], argTypes := #[t, t] }, type := ty, pos := pos, after := after, guard := none } a w K Q else E := by
  exact step_append_own_at rfl s x t rfl base e i z size bytes ht hi hz hsize hby hzs hsz v n xs hs hown ad m c news hx hl hnews h1 h63 hbytes hbase h
end
end Go.Proofs.YtklihdlfbhgpeaaDoor

namespace Go.Proofs.YtklihdlfbhgpeaaDoor
open Go.RowKit
set_option linter.unusedVariables false

/-- Twelve parts at most, of sixty bytes at most, so deep. -/
def shortV : Nat → List PartV → List PartV
  | 0, ps => (ps.take 12).map fun p => .mk p.kind (p.text.take 60) p.op p.q [] p.body
  | d + 1, ps => (ps.take 12).map fun p => .mk p.kind (p.text.take 60) p.op p.q (shortV d p.word) p.body
/-- The length of all the commands' names, so deep. -/
def nmS : Nat → List PartV → Nat
  | 0, _ => 0
  | n + 1, ps => (ps.map fun p => bodyLen p + nmS n p.word).sum
def cntS : Nat → Nat
  | 0 => 12
  | d + 1 => 12 + 12 * cntS d
theorem sum_take_le (f g : PartV → Nat) (c : Nat) (h : ∀ p, f p ≤ c + g p) : ∀ (k : Nat) (ps : List PartV), ((ps.take k).map f).sum ≤ k * c + (ps.map g).sum
  | 0, ps => by simp
  | k + 1, [] => by simp
  | k + 1, p :: ps => by
    have h1 := h p
    have h2 := sum_take_le f g c h k ps
    simp only [List.take_succ_cons, List.map_cons, List.sum_cons]
    have : (k + 1) * c = k * c + c := by rw [Nat.succ_mul]
    omega
theorem cost_short : ∀ (d n : Nat) (ps : List PartV), costW n (shortV d ps) ≤ 1060 * cntS d + nmS (d + 1) ps
  | d, 0, ps => by simp [costW]
  | 0, n + 1, ps => by
    have h := sum_take_le (fun p => costP (.mk p.kind (p.text.take 60) p.op p.q [] p.body) + costW n []) (fun p => bodyLen p + nmS 0 p.word) 1060 (fun p => by
      have : (p.text.take 60).length ≤ 60 := by rw [List.length_take]; omega
      rw [costW_nil]
      unfold costP bodyLen
      simp only [PartV.text, PartV.body]
      split <;> simp_all <;> omega) 12 ps
    have e : costW (n + 1) (shortV 0 ps) = ((ps.take 12).map fun p => costP (.mk p.kind (p.text.take 60) p.op p.q [] p.body) + costW n []).sum := by
      rw [show costW (n + 1) (shortV 0 ps) = ((shortV 0 ps).map fun p => costP p + costW n p.word).sum from rfl, shortV, List.map_map]
      rfl
    rw [e]
    have : nmS (0 + 1) ps = (ps.map fun p => bodyLen p + nmS 0 p.word).sum := rfl
    rw [this]
    simp only [cntS]
    omega
  | d + 1, n + 1, ps => by
    have h := sum_take_le (fun p => costP (.mk p.kind (p.text.take 60) p.op p.q (shortV d p.word) p.body) + costW n (shortV d p.word)) (fun p => bodyLen p + nmS (d + 1) p.word) (1060 + 1060 * cntS d) (fun p => by
      have h1 := cost_short d n p.word
      have h2 : (p.text.take 60).length ≤ 60 := by rw [List.length_take]; omega
      have h3 : costP (.mk p.kind (p.text.take 60) p.op p.q (shortV d p.word) p.body) ≤ 1060 + bodyLen p := by
        unfold costP bodyLen
        simp only [PartV.text, PartV.body]
        split <;> simp_all <;> omega
      omega) 12 ps
    have e : costW (n + 1) (shortV (d + 1) ps) = ((ps.take 12).map fun p => costP (.mk p.kind (p.text.take 60) p.op p.q (shortV d p.word) p.body) + costW n (shortV d p.word)).sum := by
      rw [show costW (n + 1) (shortV (d + 1) ps) = ((shortV (d + 1) ps).map fun p => costP p + costW n p.word).sum from rfl, shortV, List.map_map]
      rfl
    rw [e]
    have : nmS (d + 1 + 1) ps = (ps.map fun p => bodyLen p + nmS (d + 1) p.word).sum := rfl
    rw [this]
    simp only [cntS]
    omega
theorem cntS3 : cntS 3 = 22620 := rfl
/-- Two words cut short, with names of a megabyte at most in all, cost less than the walk's bound. -/
theorem cost_two (a b : List PartV) (h : nmS 4 a + nmS 4 b ≤ 1048576) : costW 20 (shortV 3 a ++ shortV 3 b) ≤ 99999999 := by
  have h1 := cost_short 3 20 a
  have h2 := cost_short 3 20 b
  rw [cntS3] at h1 h2
  rw [costW_append]
  have e1 : nmS (3 + 1) a = nmS 4 a := rfl
  have e2 : nmS (3 + 1) b = nmS 4 b := rfl
  omega
theorem shortV_append_len (d : Nat) (ps : List PartV) : (shortV d ps).length ≤ 12 := by
  cases d <;> simp [shortV] <;> omega
end Go.Proofs.YtklihdlfbhgpeaaDoor

namespace Go.Proofs.YtklihdlfbhgpeaaDoor
open Go.RowKit Go.ChangeShapes Go.WideShapes Go.Deep
set_option linter.unusedVariables false

/-- A command by its cells. -/
def BC (w : World) (A : Option Addr) : Option CmdV → Prop
  | none => A = none
  | some c => ∃ b off, A = some ⟨b, off, none⟩ ∧ w.cell? ⟨b, off + 1, none⟩ = some (.string ⟨c.name.toArray⟩) ∧ w.cell? ⟨b, off + 2, none⟩ = some (.bool c.no)
/-- A word by its cells, n deep. -/
def PC : Nat → World → Option Addr → List PartV → Prop
  | 0, _, _, _ => True
  | n + 1, w, A, ps => 0 < ps.length → ∃ b off, A = some ⟨b, off, none⟩ ∧
      ∀ (i : Nat) (p : PartV), ps[i]? = some p → ∃ A' c B, (∀ (j : Nat) u, (pcs p A' c B)[j]? = some u → w.cell? ⟨b, off + i * 6 + j, none⟩ = some u) ∧ PC n w A' p.word ∧ BC w B p.body ∧ p.word.length ≤ maxLen
theorem PC.nil (n : Nat) (w : World) (A : Option Addr) : PC n w A [] := by
  cases n with
  | zero => trivial
  | succ n => exact fun h => absurd h (by simp)
theorem bulk_mem {H : Type} {d : DataW H} : ∀ {l : List (DataW H)}, d ∈ l → Rows.uptoBulk d ≤ Rows.uptoBulkAll l
  | [], h => by cases h
  | e :: l, h => by
    rw [Rows.uptoBulkAll]
    rcases List.mem_cons.1 h with rfl | h
    · omega
    · have := bulk_mem h
      omega
theorem at_of_take {cs : List Value} {i : Nat} {v : Value} {n : Nat} (h : (cs.drop i).take n = [v]) : cs[i]? = some v := by
  have h1 : ((cs.drop i).take n)[0]? = some v := by rw [h]; rfl
  rw [List.getElem?_take] at h1
  split at h1
  · rw [List.getElem?_drop] at h1
    simpa using h1
  · cases h1
theorem sum_range_le {H : Type} : ∀ (l : List (DataW H)) (f : Nat → Nat), (∀ (i : Nat) d, l[i]? = some d → f i ≤ Rows.uptoBulk d) → ((List.range l.length).map f).sum ≤ Rows.uptoBulkAll l
  | [], f, h => by simp
  | d :: l, f, h => by
    have h0 := h 0 d rfl
    have h1 := sum_range_le l (fun i => f (i + 1)) fun i d hd => h (i + 1) d (by simpa using hd)
    rw [List.length_cons, List.range_succ_eq_map, List.map_cons, List.map_map, List.sum_cons, Rows.uptoBulkAll]
    have e : ((List.range l.length).map (f ∘ Nat.succ)).sum = ((List.range l.length).map fun i => f (i + 1)).sum := rfl
    rw [e]
    omega
section
variable {H : Type} {enc : TypeId × Value → H} {w : World} {base : Nat} {spare : Nat → Bool} {held : Bool}
theorem cmd_open {fuel : Nat} {cs : List Value} {x : DataW H × List MemPlace} (h : DataW.trod enc Tryd.prog w base spare held fuel 45 cs = some x) :
    ∃ (B : Option Addr) (b : Option CmdV), cs = [.pointer B] ∧ BC w B b ∧ (match b with | none => 0 | some c => c.name.length) ≤ Rows.uptoBulk x.1 := by
  rcases DataW.trod_pointer Tryd.underlying45 h with ⟨rfl, _⟩ | ⟨a, cs', y, n, rfl, rfl, rfl, hc, hy⟩
  · exact ⟨none, none, rfl, rfl, Nat.zero_le _⟩
  · have hC : Tryd.prog.cellsOf 60 = 9 := by kernel_rfl
    rw [hC] at hc
    obtain ⟨_, hlen, hcell⟩ := World.cells?_some hc
    obtain ⟨xs, m, _, rfl, _, hxl, hf⟩ := DataW.trod_struct Tryd.underlying60 hy
    have hxl9 : xs.length = 9 := hxl
    obtain ⟨y1, e1⟩ : ∃ y1, xs[1]? = some y1 := ⟨_, List.getElem?_eq_getElem (by omega)⟩
    obtain ⟨y2, e2⟩ : ∃ y2, xs[2]? = some y2 := ⟨_, List.getElem?_eq_getElem (by omega)⟩
    have f1 := (hf 1 _ rfl).trans e1
    have f2 := (hf 2 _ rfl).trans e2
    obtain ⟨s, hs, hy1, _⟩ := DataW.trod_string Tryd.underlying9 f1
    obtain ⟨q, hq, _⟩ := DataW.trod_bool Tryd.underlying4 f2
    have g1 := at_of_take (i := 1) hs
    have g2 := at_of_take (i := 2) hq
    obtain ⟨b, off, spot⟩ := a
    have hspot : spot = none := by
      have h0 := hcell 0 (by omega)
      rw [List.getElem?_eq_getElem (by omega)] at h0
      have := World.cell?_spot h0
      simpa [Addr.add] using this
    subst hspot
    have hadd : ∀ k, (⟨b, off, none⟩ : Addr).add k = ⟨b, off + k, none⟩ := fun k => by unfold Addr.add; split <;> simp_all
    refine ⟨some ⟨b, off, none⟩, some ⟨s.data.toList, q⟩, rfl, ⟨b, off, rfl, ?_, ?_⟩, ?_⟩
    · rw [← hadd, hcell 1 (by omega), g1]
    · rw [← hadd, hcell 2 (by omega), g2]
    · have h1 : Rows.uptoBulk y1.1 ≤ Rows.uptoBulkAll (xs.map (·.1)) := bulk_mem (List.mem_map_of_mem (List.mem_of_getElem? e1))
      rw [hy1] at h1
      simp only [Rows.uptoBulk] at h1 ⊢
      omega
/-- What is known of one part. -/
def PartO (w : World) (bulk : Nat) (cs : List Value) (p : PartV) : Prop :=
  ∃ A' c B, cs = pcs p A' c B ∧ (∀ n, PC n w A' p.word) ∧ BC w B p.body ∧ p.word.length ≤ maxLen ∧ ∀ n, bodyLen p + nmS n p.word ≤ bulk
set_option maxRecDepth 100000 in
theorem part_open {N : Nat} (ih : ∀ fuel, fuel ≤ N → ∀ {cs : List Value} {x : DataW H × List MemPlace}, DataW.trod enc Tryd.prog w base spare held fuel 22 cs = some x →
      ∃ A cap ps, cs = [.slice A ps.length cap] ∧ ps.length ≤ maxLen ∧ (∀ n, PC n w A ps) ∧ ∀ n, nmS n ps ≤ Rows.uptoBulk x.1)
    {fuel : Nat} (hf0 : fuel ≤ N) {cs : List Value} {x : DataW H × List MemPlace} (h : DataW.trod enc Tryd.prog w base spare held fuel 47 cs = some x) : ∃ p, PartO w (Rows.uptoBulk x.1) cs p := by
  obtain ⟨xs, m, hfu, rfl, hlen, hxl, hf⟩ := DataW.trod_struct Tryd.underlying47 h
  have h6 : cs.length = 6 := hlen.trans (by kernel_rfl)
  have hx6 : xs.length = 6 := hxl
  match cs, h6 with
  | [c0, c1, c2, c3, c4, c5], _ =>
    match xs, hx6 with
    | [y0, y1, y2, y3, y4, y5], _ =>
      have f0 := hf 0 _ rfl
      have f1 := hf 1 _ rfl
      have f2 := hf 2 _ rfl
      have f3 := hf 3 _ rfl
      have f4 := hf 4 _ rfl
      have f5 := hf 5 _ rfl
      simp only [List.getElem?_cons_zero, List.getElem?_cons_succ] at f0 f1 f2 f3 f4 f5
      obtain ⟨k, h0, _⟩ := DataW.trod_int Tryd.underlying3 f0
      obtain ⟨s1, h1, _⟩ := DataW.trod_string Tryd.underlying9 f1
      obtain ⟨s2, h2, _⟩ := DataW.trod_string Tryd.underlying9 f2
      obtain ⟨q, h3, _⟩ := DataW.trod_bool Tryd.underlying4 f3
      obtain ⟨A', c, ps, h4, hpl, hpc, hnm⟩ := ih m (by omega) f4
      obtain ⟨B, b, h5, hbc, hbn⟩ := cmd_open f5
      have e0 : c0 = .int .i64 k := by injection h0
      have e1 : c1 = .string s1 := by injection h1
      have e2 : c2 = .string s2 := by injection h2
      have e3 : c3 = .bool q := by injection h3
      have e4 : c4 = .slice A' ps.length c := by injection h4
      have e5 : c5 = .pointer B := by injection h5
      subst e0 e1 e2 e3 e4 e5
      refine ⟨.mk k s1.data.toList s2.data.toList q ps b, A', c, B, ?_, hpc, hbc, hpl, fun n => ?_⟩
      · simp [pcs, PartV.kind, PartV.text, PartV.op, PartV.q, PartV.word]
      · have hn := hnm n
        have hb : bodyLen (.mk k s1.data.toList s2.data.toList q ps b) ≤ Rows.uptoBulk y5.1 := hbn
        simp only [Rows.uptoBulk, Rows.uptoBulkAll, List.map_cons, List.map_nil, PartV.word] at hn ⊢
        omega
set_option maxRecDepth 100000 in
theorem parts_open : ∀ (N fuel : Nat), fuel ≤ N → ∀ {cs : List Value} {x : DataW H × List MemPlace}, DataW.trod enc Tryd.prog w base spare held fuel 22 cs = some x →
      ∃ A cap ps, cs = [.slice A ps.length cap] ∧ ps.length ≤ maxLen ∧ (∀ n, PC n w A ps) ∧ ∀ n, nmS n ps ≤ Rows.uptoBulk x.1
  | 0, fuel, hf, cs, x, h => by
    obtain rfl : fuel = 0 := by omega
    simp [DataW.trod] at h
  | N + 1, fuel, hf, cs, x, h => by
    have o47 : Tryd.prog.cellsOf 47 = 6 := by kernel_rfl
    rcases DataW.trod_slice Tryd.underlying22 h with ⟨rfl, _⟩ | ⟨a, len, cap, elems, rest, n, hfu, rfl, rfl, _, hl, hm, hel, hi, _, _⟩
    · exact ⟨none, 0, [], rfl, by simp [maxLen], fun n => PC.nil n w none, fun n => by cases n <;> simp [nmS]⟩
    · have hE : ∀ i, i < len → ∃ p : PartV, ∃ cs' y, w.cells? base (a.add (i * 6)) 6 = some cs' ∧ elems[i]? = some y ∧ PartO w (Rows.uptoBulk y.1) cs' p := by
        intro i hil
        have h1 := hi i hil
        rw [o47] at h1
        have h2 : elems[i]? = some elems[i] := List.getElem?_eq_getElem (by omega)
        rw [h2, Option.bind_eq_some_iff] at h1
        obtain ⟨cs', hc, ht⟩ := h1
        obtain ⟨p, hp⟩ := part_open (fun fuel hf => parts_open N fuel hf) (by omega) ht
        exact ⟨p, cs', _, hc, h2, hp⟩
      haveI : Inhabited PartV := ⟨.mk 0 [] [] false [] none⟩
      obtain ⟨f, hF⟩ := choose_lt hE
      have hrl : ((List.range len).map f).length = len := by simp
      have hget : ∀ i p, ((List.range len).map f)[i]? = some p → i < len ∧ f i = p := by
        intro i p hp
        have hil : i < len := by
          have := (List.getElem?_eq_some_iff.1 hp).1
          omega
        refine ⟨hil, ?_⟩
        rw [List.getElem?_map, List.getElem?_range hil] at hp
        simpa using hp
      refine ⟨some a, cap, (List.range len).map f, by rw [hrl], by rw [hrl]; omega, fun k => ?_, fun k => ?_⟩
      · cases k with
        | zero => trivial
        | succ k =>
          intro h0
          rw [hrl] at h0
          obtain ⟨b, off, spot⟩ := a
          have hspot : spot = none := by
            obtain ⟨cs', y, hc, _, A', c, B, rfl, _⟩ := hF 0 h0
            obtain ⟨_, _, hat⟩ := World.cells?_some hc
            have h1 := hat 0 (by omega)
            have := World.cell?_spot (v := .int .i64 (f 0).kind) (by rw [h1]; rfl)
            simpa [Addr.add] using this
          subst hspot
          have hadd : ∀ k, (⟨b, off, none⟩ : Addr).add k = ⟨b, off + k, none⟩ := fun k => by unfold Addr.add; split <;> simp_all
          refine ⟨b, off, rfl, fun i p hp => ?_⟩
          obtain ⟨hil, rfl⟩ := hget i p hp
          obtain ⟨cs', y, hc, _, A', c, B, rfl, h1, h2, h3, _⟩ := hF i hil
          obtain ⟨_, hlen, hat⟩ := World.cells?_some hc
          refine ⟨A', c, B, fun j u hu => ?_, h1 k, h2, h3⟩
          have hj : j < 6 := (List.getElem?_eq_some_iff.1 hu).1
          have h4 := hat j hj
          rw [hadd] at h4
          have e : (⟨b, off + i * 6, none⟩ : Addr).add j = ⟨b, off + i * 6 + j, none⟩ := by unfold Addr.add; split <;> simp_all
          rw [e, hu] at h4
          exact h4
      · cases k with
        | zero => simp [nmS]
        | succ k =>
          have hs := sum_range_le (elems.map (·.1)) (fun i => bodyLen (f i) + nmS k (f i).word) (fun i d hd => by
            rw [List.getElem?_map, Option.map_eq_some_iff] at hd
            obtain ⟨y, hy, rfl⟩ := hd
            have hil : i < len := by
              have := (List.getElem?_eq_some_iff.1 hy).1
              omega
            obtain ⟨cs', y', _, hy', A', c, B, _, _, _, _, h5⟩ := hF i hil
            obtain rfl := Option.some.inj (hy.symm.trans hy')
            exact h5 k)
          rw [List.length_map, hel] at hs
          have e : nmS (k + 1) ((List.range len).map f) = ((List.range len).map fun i => bodyLen (f i) + nmS k (f i).word).sum := by
            rw [nmS, List.map_map]
            rfl
          rw [e]
          simp only [Rows.uptoBulk]
          omega
end
end Go.Proofs.YtklihdlfbhgpeaaDoor

namespace Go.Proofs.YtklihdlfbhgpeaaDoor
open Go.RowKit
set_option linter.unusedVariables false

theorem cells_of_cell {w : World} {b off : Nat} {v : Value} (h : w.cell? ⟨b, off, none⟩ = some v) : ∃ cur t fz, w.heap[b]? = some (.cells cur t fz) ∧ cur[off]? = some v := by
  unfold World.cell? at h
  split at h
  · rename_i cur t fz hh
    exact ⟨cur, t, fz, hh, by simpa using h⟩
  all_goals simp_all
theorem BC.body [Inhabited LowT] {w : World} {A : Option Addr} {b : Option CmdV} (h : BC w A b) (hl : w.heap.size ≤ lowN + 1) : BodyAt w A b := by
  cases b with
  | none => exact h
  | some c =>
    obtain ⟨b, off, rfl, h1, h2⟩ := h
    obtain ⟨cur, t, fz, h3, h4⟩ := cells_of_cell h1
    obtain ⟨cur', t', fz', h5, h6⟩ := cells_of_cell h2
    rw [h3] at h5
    injection h5 with h5
    injection h5 with e1 e2 e3
    subst e1 e2 e3
    have := (Array.getElem?_eq_some_iff.1 h3).1
    exact ⟨b, off, rfl, cur, t, fz, h3, .inr (by omega), h4, h6⟩
end Go.Proofs.YtklihdlfbhgpeaaDoor

namespace Go.Proofs.YtklihdlfbhgpeaaDoor
open Go.RowKit
set_option linter.unusedVariables false

/-- A word's parts in memory, n deep; no part lies in a block of X. -/
def PAtX [Inhabited LowT] (X : Nat → Prop) : Nat → World → Option Addr → List PartV → Prop
  | 0, _, _, _ => True
  | n + 1, w, A, ps => 0 < ps.length → ∃ b off cur fz, A = some ⟨b, off, none⟩ ∧ ¬ X b ∧ w.heap[b]? = some (.cells cur 47 fz) ∧
      ∀ i, i < ps.length → ∀ p, ps[i]? = some p → ∃ A' c B, (∀ j u, (pcs p A' c B)[j]? = some u → cur[off + i * 6 + j]? = some u) ∧ PAtX X n w A' p.word ∧ BodyAt w B p.body
theorem PAtX.patt [Inhabited LowT] {X : Nat → Prop} {w : World} : ∀ {n : Nat} {A : Option Addr} {ps : List PartV}, PAtX X n w A ps → PAt n w A ps
  | 0, _, _, _ => trivial
  | n + 1, A, ps, h => fun h0 => by
    obtain ⟨b, off, cur, fz, e, _, hb, hc⟩ := h h0
    refine ⟨b, off, cur, fz, e, hb, fun i hi p hp => ?_⟩
    obtain ⟨A', c, B, h1, h2, h3⟩ := hc i hi p hp
    exact ⟨A', c, B, h1, h2.patt, h3⟩
theorem PAtX.kw [Inhabited LowT] {X Y : Nat → Prop} {M : Nat → TypeId → Prop} {w w' : World} (hk : Kw M w w') (h47 : ∀ k, ¬ X k → ¬ M k 47) (h60 : ∀ k, ¬ M k 60) (hl : ∀ k t, k ≤ lowN → ¬ M k t) (hY : ∀ k, k < w.heap.size → Y k → X k) :
    ∀ {n : Nat} {A : Option Addr} {ps : List PartV}, PAtX X n w A ps → PAtX Y n w' A ps
  | 0, _, _, _ => trivial
  | n + 1, A, ps, h => fun h0 => by
    obtain ⟨b, off, cur, fz, e, hx, hb, hc⟩ := h h0
    refine ⟨b, off, cur, fz, e, fun hy => hx (hY b (Array.getElem?_eq_some_iff.1 hb).1 hy), hk.keep b cur 47 fz (h47 b hx) hb, fun i hi p hp => ?_⟩
    obtain ⟨A', c, B, h1, h2, h3⟩ := hc i hi p hp
    exact ⟨A', c, B, h1, PAtX.kw hk h47 h60 hl hY h2, h3.kw hk h60 hl⟩
theorem PAtX.nil [Inhabited LowT] (X : Nat → Prop) (n : Nat) (w : World) (A : Option Addr) : PAtX X n w A [] := by
  cases n with
  | zero => trivial
  | succ n => exact fun h => absurd h (by simp)
/-- A word that is built, part behind part, in a row of its own; the parts' words avoid the row's block. -/
def SAt [Inhabited LowT] (n : Nat) (w : World) (B : Nat) (v : Value) (l : List PartL) : Prop :=
  w.ownsRow B 47 6 v l.length (l.flatMap PartL.cells) ∧ ∀ x ∈ l, PAtX (fun k => v.ownBlock = some k ∨ k < B) n w x.A x.p.word ∧ BodyAt w x.B x.p.body
theorem SAt.nil [Inhabited LowT] (n : Nat) (w : World) (B : Nat) : SAt n w B (.slice none 0 0) [] := ⟨World.ownsRow_nil _ _ _ _, fun x h => by cases h⟩
theorem SAt.below [Inhabited LowT] {n : Nat} {w w' : World} {B : Nat} {v : Value} {l : List PartL} (h : SAt n w B v l) (hb : Below w.heap.size w w') : SAt n w' B v l :=
  ⟨own_kw h.1 (Kw.below (M := fun _ _ => False) hb) fun _ _ h => h, fun x hx => ⟨(h.2 x hx).1.kw (M := fun _ _ => False) (Kw.below hb) (fun _ _ h => h) (fun _ h => h) (fun _ _ _ h => h) (fun _ _ h => h), (h.2 x hx).2.kw (M := fun _ _ => False) (Kw.below hb) (fun _ h => h) (fun _ _ _ h => h)⟩⟩
/-- A part behind the word; its own word avoids the row's block. -/
theorem SAt.push [Inhabited LowT] {n : Nat} {w2 w3 : World} {B : Nat} {v v' : Value} {l : List PartL} (h : SAt n w2 B v l) (hB : lowN < B) (x : PartL) (hx : PAtX (fun k => v.ownBlock = some k ∨ k < B) n w2 x.A x.p.word) (hb : BodyAt w2 x.B x.p.body)
    (h3 : w3.ownsRow B 47 6 v' (l.length + 1) (l.flatMap PartL.cells ++ x.cells)) (hg : w2.grownBy w3 v.ownBlock) (hat : v'.ownBlock = v.ownBlock ∨ v'.ownBlock = some w2.heap.size) : SAt n w3 B v' (l ++ [x]) := by
  have hk : Kw (fun k t => v.ownBlock = some k ∧ t = 47) w2 w3 := Kw.grown hg fun r hr => by
    obtain ⟨cur, hc⟩ := own_cells h.1 hr
    exact ⟨cur, 47, (0, 0), hc, hr, rfl⟩
  have habove : ∀ r, v.ownBlock = some r → B ≤ r := fun r hr => by
    rcases h.1.2 with ⟨rfl, _⟩ | ⟨g, cap, cur, rfl, hb, _⟩
    · cases hr
    · obtain rfl : g = r := by simpa [Value.ownBlock] using hr
      exact hb
  have hl : ∀ k t, k ≤ lowN → ¬ (v.ownBlock = some k ∧ t = 47) := fun k t hk hh => by have := habove k hh.1; omega
  have hY : ∀ k, k < w2.heap.size → (v'.ownBlock = some k ∨ k < B) → (v.ownBlock = some k ∨ k < B) := fun k hk2 hh => by
    rcases hh with hh | hh
    · rcases hat with e | e
      · rw [← e]; exact .inl hh
      · rw [e] at hh; injection hh with hh; omega
    · exact .inr hh
  refine ⟨?_, fun y hy => ?_⟩
  · rw [List.length_append, List.flatMap_append]
    have : [x].flatMap PartL.cells = x.cells := by simp
    rw [this]
    exact h3
  · have hmov : ∀ (A : Option Addr) (ps : List PartV), PAtX (fun k => v.ownBlock = some k ∨ k < B) n w2 A ps → PAtX (fun k => v'.ownBlock = some k ∨ k < B) n w3 A ps := fun A ps hp => hp.kw hk (fun k hx hh => hx (.inl hh.1)) (fun k hh => absurd hh.2 (by decide)) hl hY
    rw [List.mem_append, List.mem_singleton] at hy
    rcases hy with hy | rfl
    · exact ⟨hmov _ _ (h.2 y hy).1, (h.2 y hy).2.kw hk (fun k hh => absurd hh.2 (by decide)) hl⟩
    · exact ⟨hmov _ _ hx, hb.kw hk (fun k hh => absurd hh.2 (by decide)) hl⟩
/-- The word that is built is a word in memory; no part lies below B. -/
theorem SAt.pattX [Inhabited LowT] {n : Nat} {w : World} {B : Nat} {v : Value} {l : List PartL} (h : SAt n w B v l) : ∃ A c, v = .slice A l.length c ∧ PAtX (fun k => k < B) (n + 1) w A (l.map PartL.p) := by
  obtain ⟨h2, h3⟩ := h
  have habove : ∀ r, v.ownBlock = some r → B ≤ r := fun r hr => by
    rcases h2.2 with ⟨rfl, _⟩ | ⟨g, cap, cur, rfl, hb, _⟩
    · cases hr
    · obtain rfl : g = r := by simpa [Value.ownBlock] using hr
      exact hb
  obtain ⟨A, c, rfl, hown, _⟩ := own_form h2
  refine ⟨A, c, rfl, fun h0 => ?_⟩
  rw [List.length_map] at h0
  obtain ⟨b, off, cur, fz, e, hb, hc⟩ := (TR.of_own h2).2 h0
  have hbB : B ≤ b := by
    obtain ⟨b', e', hb'⟩ := hown h0
    rw [e] at e'
    injection e' with e'
    injection e' with e1 _
    subst e1
    exact habove _ hb'
  refine ⟨b, off, cur, fz, e, by omega, hb, fun i hi p hp => ?_⟩
  rw [List.getElem?_map, Option.map_eq_some_iff] at hp
  obtain ⟨x, hx, rfl⟩ := hp
  obtain ⟨a1, a2⟩ := h3 x (List.mem_of_getElem? hx)
  refine ⟨x.A, x.c, x.B, fun j u hj => ?_, a1.kw (M := fun _ _ => False) (Kw.refl _ _) (fun _ _ h => h) (fun _ h => h) (fun _ _ _ h => h) (fun k _ hk => .inr hk), a2⟩
  have := hc (i * 6 + j) u (flat6_get l i j x u hx hj)
  rw [Nat.add_assoc]
  exact this
end Go.Proofs.YtklihdlfbhgpeaaDoor

namespace Go.Proofs.YtklihdlfbhgpeaaDoor
open Go.RowKit
set_option linter.unusedVariables false

theorem infoP : (Tryd.prog.info? 47).map (fun i => (i.zero, i.size, i.bytes)) = some (some (.agg #[.int .i64 0, .string ⟨#[]⟩, .string ⟨#[]⟩, .bool false, .slice none 0 0, .pointer none]), 6, 80) := by kernel_rfl
/-- A part that comes in. -/
structure PartIn (w : World) (b o : Nat) (p : PartV) (A' : Option Addr) (c' : Nat) (B : Option Addr) : Prop where
  x0 : w.cell? ⟨b, o, none⟩ = some (.int .i64 p.kind)
  x1 : w.cell? ⟨b, o + 1, none⟩ = some (.string ⟨p.text.toArray⟩)
  x2 : w.cell? ⟨b, o + 2, none⟩ = some (.string ⟨p.op.toArray⟩)
  x3 : w.cell? ⟨b, o + 3, none⟩ = some (.bool p.q)
  x4 : w.cell? ⟨b, o + 4, none⟩ = some (.slice A' p.word.length c')
  x5 : w.cell? ⟨b, o + 5, none⟩ = some (.pointer B)
  word : ∀ n, PC n w A' p.word
  body : BC w B p.body
  len : p.word.length ≤ maxLen
theorem PC.part {w : World} {A : Option Addr} {ps : List PartV} (h : ∀ n, PC n w A ps) (i : Nat) (p : PartV) (hp : ps[i]? = some p) :
    ∃ b off A' c B, A = some ⟨b, off, none⟩ ∧ PartIn w b (off + i * 6) p A' c B := by
  have h0 : 0 < ps.length := by
    have := (List.getElem?_eq_some_iff.1 hp).1
    omega
  obtain ⟨b, off, e, hc⟩ := h 1 h0
  obtain ⟨A', c, B, h1, _, h3, h4⟩ := hc i p hp
  refine ⟨b, off, A', c, B, e, h1 0 _ rfl, h1 1 _ rfl, h1 2 _ rfl, h1 3 _ rfl, h1 4 _ rfl, h1 5 _ rfl, fun n => ?_, h3, h4⟩
  obtain ⟨b', off', e', hc'⟩ := h (n + 1) h0
  rw [e] at e'
  injection e' with e'
  injection e' with e1 e2
  subst e1 e2
  obtain ⟨A'', c'', B'', g1, g2, _, _⟩ := hc' i p hp
  have q1 := h1 4 _ rfl
  have q2 := g1 4 _ rfl
  rw [q1] at q2
  injection q2 with q2
  injection q2 with q2
  rw [q2]
  exact g2
def shP : Nat → PartV → PartV
  | 0, p => .mk p.kind (cut60 p.text) p.op p.q [] p.body
  | d + 1, p => .mk p.kind (cut60 p.text) p.op p.q (shortV d p.word) p.body
theorem shortV_map (d : Nat) (ps : List PartV) : shortV d ps = (ps.take 12).map (shP d) := by
  cases d <;> rfl
theorem shP_succ (d : Nat) (ps : List PartV) (k : Nat) (p : PartV) (hp : ps[k]? = some p) : (ps.take (k + 1)).map (shP d) = (ps.take k).map (shP d) ++ [shP d p] := by
  obtain ⟨h, rfl⟩ := List.getElem?_eq_some_iff.1 hp
  rw [List.take_succ_eq_append_getElem h, List.map_append]
  rfl
theorem sh_min (d : Nat) (ps : List PartV) (k : Nat) (h : k = min ps.length 12) : (ps.take k).map (shP d) = shortV d ps := by
  rw [shortV_map]
  congr 1
  subst h
  by_cases e : ps.length ≤ 12
  · rw [Nat.min_eq_left e, List.take_length, List.take_of_length_le e]
  · rw [Nat.min_eq_right (by omega)]
/-- The loop's state: what is built, and what it comes to. -/
structure SI [Inhabited LowT] (d : Nat) (W0 w0 w : World) (ps : List PartV) (k : Nat) (v : Value) (l : List PartL) : Prop where
  old : Below W0.heap.size W0 w
  bel : Below w0.heap.size w0 w
  at_ : SAt d w w0.heap.size v l
  val : l.map PartL.p = (ps.take k).map (shP d)
theorem SI.below [Inhabited LowT] {d : Nat} {W0 w0 w w' : World} {ps : List PartV} {k : Nat} {v : Value} {l : List PartL} (h : SI d W0 w0 w ps k v l) (hb : Below w.heap.size w w') : SI d W0 w0 w' ps k v l :=
  ⟨h.old.trans (hb.mono h.old.size), h.bel.trans (hb.mono h.bel.size), h.at_.below hb, h.val⟩
theorem BodyAt.at_ [Inhabited LowT] {w w' : World} {B : Option Addr} {b : Option CmdV} (h : BodyAt w B b) (hb : Below w.heap.size w w') : BodyAt w' B b := h.kw (M := fun _ _ => False) (Kw.below hb) (fun _ h => h) fun _ _ _ h => h
/-- A part behind the word. -/
theorem SI.push [Inhabited LowT] {d : Nat} {W0 w0 w2 w3 : World} {ps : List PartV} {k : Nat} {v v' : Value} {l : List PartL} (h : SI d W0 w0 w2 ps k v l) (hl : lowN < w0.heap.size) (hW : W0.heap.size ≤ lowN + 1) (p : PartV) (hp : ps[k]? = some p) (x : PartL) (hx : x.p = shP d p)
    (hw : PAtX (fun k => v.ownBlock = some k ∨ k < w0.heap.size) d w2 x.A x.p.word) (hbody : BC W0 x.B p.body)
    (h3 : w3.ownsRow w0.heap.size 47 6 v' (l.length + 1) (l.flatMap PartL.cells ++ x.cells)) (hg : w2.grownBy w3 v.ownBlock) (hat : v'.ownBlock = v.ownBlock ∨ v'.ownBlock = some w2.heap.size) : SI d W0 w0 w3 ps (k + 1) v' (l ++ [x]) := by
  have hb : BodyAt w2 x.B x.p.body := by
    have e : x.p.body = p.body := by rw [hx]; cases d <;> rfl
    rw [e]
    exact (hbody.body hW).at_ h.old
  have hk : Kw (fun k t => v.ownBlock = some k ∧ t = 47) w2 w3 := Kw.grown hg fun r hr => by
    obtain ⟨cur, hc⟩ := own_cells h.at_.1 hr
    exact ⟨cur, 47, (0, 0), hc, hr, rfl⟩
  refine ⟨h.old.trans (hk.toBelow h.old.size fun k t hh => ?_), h.bel.trans (hk.toBelow h.bel.size fun k t hh => ?_), h.at_.push hl x hw hb h3 hg hat, ?_⟩
  · have := fown_above h.at_.1 hh.1
    omega
  · exact fown_above h.at_.1 hh.1
  · rw [List.map_append, h.val, shP_succ d ps k p hp, List.map_singleton, hx]
end Go.Proofs.YtklihdlfbhgpeaaDoor

namespace Go.Proofs.YtklihdlfbhgpeaaDoor
open Go.RowKit
set_option linter.unusedVariables false

/-! ## Words -/
theorem PAt.of_row [Inhabited LowT] {n : Nat} {w : World} {A : Option Addr} {l : List PartL} (hT : TR w 47 6 A l.length (l.flatMap PartL.cells)) (hs : ∀ x ∈ l, PAt n w x.A x.p.word ∧ BodyAt w x.B x.p.body) : PAt (n + 1) w A (l.map PartL.p) := by
  intro h0
  rw [List.length_map] at h0
  obtain ⟨b, off, cur, fz, e, hb, hc⟩ := hT.2 h0
  refine ⟨b, off, cur, fz, e, hb, fun i hi p hp => ?_⟩
  rw [List.getElem?_map, Option.map_eq_some_iff] at hp
  obtain ⟨x, hx, rfl⟩ := hp
  obtain ⟨a1, a2⟩ := hs x (List.mem_of_getElem? hx)
  refine ⟨x.A, x.c, x.B, fun j u hj => ?_, a1, a2⟩
  have := hc (i * 6 + j) u (flat6_get l i j x u hx hj)
  rw [Nat.add_assoc]
  exact this
theorem shortV_get {d : Nat} {ps : List PartV} {i : Nat} {p : PartV} (h : (shortV d ps)[i]? = some p) : ∃ p', p = shP d p' := by
  rw [shortV_map, List.getElem?_map, Option.map_eq_some_iff] at h
  obtain ⟨p', _, rfl⟩ := h
  exact ⟨p', rfl⟩
theorem shortV_pat [Inhabited LowT] {w : World} : ∀ (d n : Nat) (A : Option Addr) (ps : List PartV), PAt (d + 1) w A (shortV d ps) → PAt n w A (shortV d ps)
  | _, 0, _, _, _ => trivial
  | d, n + 1, A, ps, h => fun h0 => by
    obtain ⟨b, off, cur, fz, e, hb, hc⟩ := h h0
    refine ⟨b, off, cur, fz, e, hb, fun i hi p hp => ?_⟩
    obtain ⟨A', c, B, h1, h2, h3⟩ := hc i hi p hp
    refine ⟨A', c, B, h1, ?_, h3⟩
    obtain ⟨p', rfl⟩ := shortV_get hp
    cases d with
    | zero => exact PAt.nil _ _ _
    | succ d => exact shortV_pat d n A' p'.word h2
theorem SAt.words [Inhabited LowT] {w : World} {B : Nat} {v : Value} {l : List PartL} {ps : List PartV} (h : SAt 3 w B v l) (hl : l.map PartL.p = shortV 3 ps) (n : Nat) : ∀ x ∈ l, PAt n w x.A x.p.word ∧ BodyAt w x.B x.p.body := by
  intro x hx
  obtain ⟨h1, h2⟩ := h.2 x hx
  refine ⟨?_, h2⟩
  have hm : x.p ∈ shortV 3 ps := hl ▸ List.mem_map_of_mem hx
  obtain ⟨i, hi⟩ := List.mem_iff_getElem?.1 hm
  obtain ⟨p', hp⟩ := shortV_get hi
  rw [hp] at h1 ⊢
  exact shortV_pat 2 n x.A p'.word h1.patt
theorem SAt.pat [Inhabited LowT] {w : World} {B : Nat} {v : Value} {l : List PartL} {ps : List PartV} (h : SAt 3 w B v l) (hl : l.map PartL.p = shortV 3 ps) : ∃ A c, v = .slice A (shortV 3 ps).length c ∧ PAt 20 w A (shortV 3 ps) := by
  obtain ⟨A, c, hv, _, _⟩ := own_form h.1
  subst hv
  have e : l.length = (shortV 3 ps).length := by rw [← hl, List.length_map]
  refine ⟨A, c, by rw [e], ?_⟩
  have := PAt.of_row (n := 19) (TR.of_own h.1) (h.words hl 19)
  rw [hl] at this
  exact this
/-- Two words, one behind the other in a row of its own. -/
theorem two_words [Inhabited LowT] {w w' : World} {B1 B2 base : Nat} {v1 v2 v : Value} {l1 l2 : List PartL} {a b : List PartV} (h1 : SAt 3 w B1 v1 l1) (e1 : l1.map PartL.p = shortV 3 a) (h2 : SAt 3 w B2 v2 l2) (e2 : l2.map PartL.p = shortV 3 b)
    (hb : Below w.heap.size w w') (hr : w'.ownsRow base 47 6 v (l1.length + l2.length) (l1.flatMap PartL.cells ++ l2.flatMap PartL.cells)) : ∃ A c, v = .slice A (shortV 3 a ++ shortV 3 b).length c ∧ PAt 20 w' A (shortV 3 a ++ shortV 3 b) := by
  obtain ⟨A, c, hv, _, _⟩ := own_form hr
  subst hv
  have el : l1.length + l2.length = (shortV 3 a ++ shortV 3 b).length := by rw [← e1, ← e2, List.length_append, List.length_map, List.length_map]
  refine ⟨A, c, by rw [el], ?_⟩
  have hT := TR.of_own hr
  rw [← List.length_append, ← List.flatMap_append] at hT
  have := PAt.of_row (n := 19) hT (fun x hx => by
    rcases List.mem_append.1 hx with hx | hx
    · exact ⟨((h1.words e1 19) x hx).1.kw (M := fun _ _ => False) (Kw.below hb) (fun _ h => h) (fun _ h => h) (fun _ _ _ h => h), ((h1.words e1 19) x hx).2.at_ hb⟩
    · exact ⟨((h2.words e2 19) x hx).1.kw (M := fun _ _ => False) (Kw.below hb) (fun _ h => h) (fun _ h => h) (fun _ _ _ h => h), ((h2.words e2 19) x hx).2.at_ hb⟩)
  rw [List.map_append, e1, e2] at this
  exact this
theorem pcs_one (l : List PartL) : ∀ u ∈ l.flatMap PartL.cells, u.oneCell' = true := by
  intro u hu
  obtain ⟨x, _, hx⟩ := List.mem_flatMap.1 hu
  simp only [PartL.cells, pcs, List.mem_cons, List.not_mem_nil, or_false] at hx
  rcases hx with rfl | rfl | rfl | rfl | rfl | rfl <;> rfl

/-! ## Two environments -/
structure FewV (lo hi : Nat) (w : World) (vL vA : Value) (σ : EnvV) : Prop where
  L : w.ownsRow lo 44 2 vL σ.vars.length (vrv σ.vars)
  A : w.ownsRow lo 9 1 vA σ.args.length (txv σ.args)
  Lh : ∀ r, vL.ownBlock = some r → r < hi
  Ah : ∀ r, vA.ownBlock = some r → r < hi
theorem own_lt {w : World} {B t k n : Nat} {v : Value} {xs : List Value} (h : w.ownsRow B t k v n xs) {r : Nat} (hr : v.ownBlock = some r) : r < w.heap.size := by
  obtain ⟨cur, hc⟩ := own_cells h hr
  exact (Array.getElem?_eq_some_iff.1 hc).1
theorem FewAt.v {B : Nat} {w : World} {v : Value} {l : List (Str × Str)} {al : List Str} {st : Int} (h : FewAt B w v l al st) : ∃ vL vA, v = .agg #[vL, vA, .int .i64 st] ∧ FewV B w.heap.size w vL vA ⟨l, al, st, []⟩ := by
  obtain ⟨vL, vA, rfl, h1, h2⟩ := h
  exact ⟨vL, vA, rfl, h1, h2, fun r hr => own_lt h1 hr, fun r hr => own_lt h2 hr⟩
theorem FewV.kw {lo hi : Nat} {w w' : World} {vL vA : Value} {σ : EnvV} {M : Nat → TypeId → Prop} (h : FewV lo hi w vL vA σ) (hk : Kw M w w') (hm : ∀ k t, envT t → lo ≤ k → k < hi → ¬ M k t) : FewV lo hi w' vL vA σ :=
  ⟨own_kw h.L hk fun r hr => hm r 44 (.inr (.inl rfl)) (fown_above h.L hr) (h.Lh r hr), own_kw h.A hk fun r hr => hm r 9 (.inr (.inr rfl)) (fown_above h.A hr) (h.Ah r hr), h.Lh, h.Ah⟩
theorem FewV.below {lo hi : Nat} {w w' : World} {vL vA : Value} {σ : EnvV} (h : FewV lo hi w vL vA σ) (hb : Below w.heap.size w w') : FewV lo hi w' vL vA σ := h.kw (M := fun _ _ => False) (Kw.below hb) fun _ _ _ _ _ h => h
structure EnvI (lo hi Eb : Nat) (w : World) (σ : EnvV) : Prop where
  hiw : hi ≤ w.heap.size
  seen : σ.seen = []
  ex : ∃ vL vA, At w Eb 31 #[vL, vA, .int .i64 σ.status, .slice none 0 0] ∧ FewV lo hi w vL vA σ
theorem EnvI.lt {lo hi Eb : Nat} {w : World} {σ : EnvV} (h : EnvI lo hi Eb w σ) : Eb < w.heap.size := by
  obtain ⟨_, _, vL, vA, h1, _⟩ := h
  exact h1.lt
theorem EnvI.kw {lo hi Eb : Nat} {w w' : World} {σ : EnvV} {M : Nat → TypeId → Prop} (h : EnvI lo hi Eb w σ) (hk : Kw M w w') (hm : ∀ k t, envT t → (lo ≤ k ∧ k < hi) ∨ k = Eb → ¬ M k t) : EnvI lo hi Eb w' σ := by
  obtain ⟨h1, h2, vL, vA, h3, h4⟩ := h
  exact ⟨Nat.le_trans h1 hk.size, h2, vL, vA, hk.at_ h3 (hm _ _ (.inl rfl) (.inr rfl)), h4.kw hk fun k t ht ha hb => hm k t ht (.inl ⟨ha, hb⟩)⟩
theorem EnvI.below {lo hi Eb : Nat} {w w' : World} {σ : EnvV} (h : EnvI lo hi Eb w σ) (hb : Below w.heap.size w w') : EnvI lo hi Eb w' σ := h.kw (M := fun _ _ => False) (Kw.below hb) fun _ _ _ _ h => h
theorem EnvI.env {lo hi Eb : Nat} {w : World} {σ : EnvV} (h : EnvI lo hi Eb w σ) : EnvAt w (fun k => ((lo ≤ k ∧ k < hi) ∨ k = Eb) ∨ w.heap.size ≤ k) Eb σ := by
  obtain ⟨h1, h2, vL, vA, h3, h4⟩ := h
  obtain ⟨AA, cA, rfl, _, hAo⟩ := own_form h4.A
  refine ⟨fun k hk => .inr hk, .inl (.inr rfl), vL, AA, cA, .slice none 0 0, h3, own_base h4.L fun r _ => Nat.zero_le r, .inl fun r hr => .inl (.inl ⟨fown_above h4.L hr, h4.Lh r hr⟩), TR.of_own h4.A, ?_, fun r hr => (by cases hr), fun _ b off _ h => by cases h⟩
  rw [h2]
  exact World.ownsRow_nil _ _ _ _
/-- A box of an environment. -/
theorem EnvI.box {lo hi : Nat} {w : World} {vL vA : Value} {σ : EnvV} (h : FewV lo hi w vL vA σ) (hh : hi ≤ w.heap.size) (h0 : σ.seen = []) : EnvI lo hi w.heap.size (w.alloc (.cells #[vL, vA, .int .i64 σ.status, .slice none 0 0] 31)) σ :=
  ⟨by simp; omega, h0, vL, vA, heap_alloc_new w _, h.below ((Below.refl _ _).alloc (Nat.le_refl _) _)⟩
/-- Two environments, apart, both at or above B. -/
structure Two (B : Nat) (w : World) (E1 E2 : Nat) (σ : EnvV) : Prop where
  ex : ∃ lo1 hi1 lo2 hi2, EnvI lo1 hi1 E1 w σ ∧ EnvI lo2 hi2 E2 w σ ∧ B ≤ lo1 ∧ B ≤ lo2 ∧ B ≤ E1 ∧ B ≤ E2 ∧ ∀ k, (lo1 ≤ k ∧ k < hi1) ∨ k = E1 → ¬ ((lo2 ≤ k ∧ k < hi2) ∨ k = E2)
theorem Two.symm {B : Nat} {w : World} {E1 E2 : Nat} {σ : EnvV} (h : Two B w E1 E2 σ) : Two B w E2 E1 σ := by
  obtain ⟨a, b, c, d, h1, h2, h3, h4, h5, h6, h7⟩ := h
  exact ⟨c, d, a, b, h2, h1, h4, h3, h6, h5, fun k hk hk' => h7 k hk' hk⟩
theorem Two.below {B : Nat} {w w' : World} {E1 E2 : Nat} {σ : EnvV} (h : Two B w E1 E2 σ) (hb : Below w.heap.size w w') : Two B w' E1 E2 σ := by
  obtain ⟨a, b, c, d, h1, h2, h3⟩ := h
  exact ⟨a, b, c, d, h1.below hb, h2.below hb, h3⟩
/-- What few has made, made in a world at or above B. -/
structure FewR (B : Nat) (w wa : World) (vL vA : Value) (σ : EnvV) : Prop where
  B : B ≤ w.heap.size
  v : FewV w.heap.size wa.heap.size wa vL vA σ
  b : Below w.heap.size w wa
section
variable {B : Nat} {w wa wb : World} {xL xA yL yA : Value} {σ : EnvV}
theorem two_p1 (h0 : σ.seen = []) (h1 : FewR B w wa xL xA σ) (h2 : FewR B (wa.alloc (.cells #[xL, xA, .int .i64 σ.status, .slice none 0 0] 31)) wb yL yA σ) :
    Two B (wb.alloc (.cells #[yL, yA, .int .i64 σ.status, .slice none 0 0] 31)) wa.heap.size wb.heap.size σ := by
  have e1 := EnvI.box h1.v (Nat.le_refl _) h0
  have e2 := EnvI.box h2.v (Nat.le_refl _) h0
  have s1 := h1.b.size
  have s2 := h2.b.size
  have b2 := h2.B
  have b1 := h1.B
  simp only [World.size_alloc] at s2 b2
  have hb : Below wb.heap.size wb (wb.alloc (.cells #[yL, yA, .int .i64 σ.status, .slice none 0 0] 31)) := (Below.refl _ _).alloc (Nat.le_refl _) _
  refine ⟨_, _, _, _, (e1.below h2.b).below hb, e2, h1.B, h2.B, by omega, by omega, fun k hk hk' => ?_⟩
  simp only [World.size_alloc] at hk'
  omega
theorem two_p2 (h0 : σ.seen = []) (h1 : FewR B w wa xL xA σ) (h2 : FewR B wa wb yL yA σ) :
    Two B ((wb.alloc (.cells #[xL, xA, .int .i64 σ.status, .slice none 0 0] 31)).alloc (.cells #[yL, yA, .int .i64 σ.status, .slice none 0 0] 31)) wb.heap.size (wb.heap.size + 1) σ := by
  have s1 := h1.b.size
  have s2 := h2.b.size
  have b1 := h1.B
  have hb : Below wb.heap.size wb (wb.alloc (.cells #[xL, xA, .int .i64 σ.status, .slice none 0 0] 31)) := (Below.refl _ _).alloc (Nat.le_refl _) _
  have hb2 : Below (wb.alloc (.cells #[xL, xA, .int .i64 σ.status, .slice none 0 0] 31)).heap.size (wb.alloc (.cells #[xL, xA, .int .i64 σ.status, .slice none 0 0] 31)) ((wb.alloc (.cells #[xL, xA, .int .i64 σ.status, .slice none 0 0] 31)).alloc (.cells #[yL, yA, .int .i64 σ.status, .slice none 0 0] 31)) := (Below.refl _ _).alloc (Nat.le_refl _) _
  have e1 := EnvI.box (h1.v.below h2.b) (by omega) h0
  have e2 := EnvI.box (h2.v.below hb) (by simp) h0
  simp only [World.size_alloc] at e2
  refine ⟨_, _, _, _, e1.below hb2, e2, h1.B, by omega, by omega, by omega, fun k hk hk' => ?_⟩
  omega
theorem two_p3 (h0 : σ.seen = []) (h1 : FewR B w wa xL xA σ) (h2 : FewR B wa wb yL yA σ) :
    Two B ((wb.alloc (.cells #[yL, yA, .int .i64 σ.status, .slice none 0 0] 31)).alloc (.cells #[xL, xA, .int .i64 σ.status, .slice none 0 0] 31)) (wb.heap.size + 1) wb.heap.size σ := by
  have s1 := h1.b.size
  have s2 := h2.b.size
  have b1 := h1.B
  have hb : Below wb.heap.size wb (wb.alloc (.cells #[yL, yA, .int .i64 σ.status, .slice none 0 0] 31)) := (Below.refl _ _).alloc (Nat.le_refl _) _
  have hb2 : Below (wb.alloc (.cells #[yL, yA, .int .i64 σ.status, .slice none 0 0] 31)).heap.size (wb.alloc (.cells #[yL, yA, .int .i64 σ.status, .slice none 0 0] 31)) ((wb.alloc (.cells #[yL, yA, .int .i64 σ.status, .slice none 0 0] 31)).alloc (.cells #[xL, xA, .int .i64 σ.status, .slice none 0 0] 31)) := (Below.refl _ _).alloc (Nat.le_refl _) _
  have e2 := EnvI.box h2.v (Nat.le_refl _) h0
  have e1 := EnvI.box ((h1.v.below h2.b).below hb) (by simp; omega) h0
  simp only [World.size_alloc] at e1
  refine ⟨_, _, _, _, e1, e2.below hb2, h1.B, by omega, by omega, by omega, fun k hk hk' => ?_⟩
  omega
end
/-- What an environment was told, as it reads. -/
structure SeenAt (w : World) (Eb : Nat) (l : List Str) : Prop where
  ex : ∃ A c, w.cell? ⟨Eb, 3, none⟩ = some (.slice A l.length c) ∧ TR w 9 1 A l.length (txv l)
theorem SeenAt.below {w w' : World} {Eb : Nat} {l : List Str} (h : SeenAt w Eb l) (hb : Below w.heap.size w w') : SeenAt w' Eb l := by
  obtain ⟨A, c, h1, h2⟩ := h
  exact ⟨A, c, cell_blw h1 hb, h2.below hb⟩
theorem EnvAt.seenAt {w : World} {S : Nat → Prop} {Eb : Nat} {σ : EnvV} (h : EnvAt w S Eb σ) : SeenAt w Eb σ.seen := by
  obtain ⟨_, _, vL, AA, cA, vS, h1, _, _, _, h5, _⟩ := h
  obtain ⟨A, c, rfl, _, _⟩ := own_form h5
  exact ⟨A, c, by rw [h1.cell]; rfl, TR.of_own h5⟩
theorem EnvAt.seenAfter {w w' : World} {S : Nat → Prop} {Eb : Nat} {σ : EnvV} {M : Nat → TypeId → Prop} (h : EnvAt w S Eb σ) (hk : Kw M w w') (hm : ∀ k t, k < w.heap.size → S k → ¬ M k t) : SeenAt w' Eb σ.seen := by
  obtain ⟨_, own, vL, AA, cA, vS, h1, _, _, _, h5, h6, _⟩ := h
  have h1' := hk.at_ h1 (hm _ _ h1.lt own)
  have h5' := own_kw h5 hk fun r hr => hm r 9 (own_lt h5 hr) (h6 r hr)
  obtain ⟨A, c, rfl, _, _⟩ := own_form h5
  exact ⟨A, c, by rw [h1'.cell]; rfl, TR.of_own h5'⟩
/-- The first environment is used; then the second. -/
theorem Two.run {B : Nat} {w : World} {E1 E2 : Nat} {σ : EnvV} (h : Two B w E1 E2 σ) : ∃ S1 : Nat → Prop, EnvAt w S1 E1 σ ∧ (∀ k, S1 k → B ≤ k ∨ w.heap.size ≤ k) ∧ ∀ w4 σ1, EnvAt w4 S1 E1 σ1 → Kw (ME S1) w w4 →
    ∃ S2 : Nat → Prop, EnvAt w4 S2 E2 σ ∧ (∀ k, S2 k → B ≤ k ∨ w4.heap.size ≤ k) ∧ ∀ w5, Kw (ME S2) w4 w5 → SeenAt w5 E1 σ1.seen := by
  obtain ⟨a, b, c, d, h1, h2, h3, h4, h5, h6, h7⟩ := h
  refine ⟨_, h1.env, fun k hk => ?_, fun w4 σ1 hE hK => ?_⟩
  · rcases hk with (hk | hk) | hk
    · left; omega
    · left; omega
    · right; exact hk
  · have h2' := h2.kw hK fun k t ht hk hh => by
      rcases hh.1 with hh | hh
      · exact h7 k hh hk
      · have := h2.hiw
        have := h2.lt
        omega
    refine ⟨_, h2'.env, fun k hk => ?_, fun w5 hK5 => hE.seenAfter hK5 fun k t hk hS hh => ?_⟩
    · rcases hk with (hk | hk) | hk
      · left; omega
      · left; omega
      · right; exact hk
    · have e1 := h2.hiw
      have e2 := h2.lt
      rcases hh.1 with hh | hh
      · rcases hS with hS | hS
        · exact h7 k hS hh
        · omega
      · omega

/-! ## Fields that are read -/
def RdF (w : World) (A : Option Addr) (F : Flds) : Prop := ∀ i, i < F.length → ∃ b off Ai ci, A = some ⟨b, off, none⟩ ∧ w.cell? ⟨b, off + i, none⟩ = some (.slice Ai (F.getD i []).length ci) ∧ TR w 40 3 Ai (F.getD i []).length (rnv (F.getD i []))
theorem RdF.below {w w' : World} {A : Option Addr} {F : Flds} (h : RdF w A F) (hb : Below w.heap.size w w') : RdF w' A F := fun i hi => by
  obtain ⟨b, off, Ai, ci, h1, h2, h3⟩ := h i hi
  exact ⟨b, off, Ai, ci, h1, cell_blw h2 hb, h3.below hb⟩
theorem FldOut.rd {w : World} {P : Nat → Prop} {v : Value} {F : Flds} (h : FldOut w P v F) : ∃ A c, v = .slice A F.length c ∧ RdF w A F := by
  obtain ⟨A, c, rows, h1, h2, _, h4⟩ := h.row
  refine ⟨A, c, h1, fun i hi => ?_⟩
  obtain ⟨b, off, cur, fz, e, hb, hc⟩ := h2.2 (by omega)
  obtain ⟨u, hu, Ai, ci, rfl, hT, _⟩ := h4.get hi
  exact ⟨b, off, Ai, ci, e, (cell_of_row w b (off + i) cur 38 fz hb).trans (hc i _ hu), hT⟩
theorem joinF_getD (Y Z : Flds) (hY : Y ≠ []) (hZ : Z ≠ []) (i : Nat) : (joinF Y Z).getD i [] = (if i < Y.length then Y.getD i [] else []) ++ (if Y.length ≤ i + 1 then Z.getD (i + 1 - Y.length) [] else []) := by
  obtain ⟨X, y, rfl⟩ : ∃ X y, Y = X ++ [y] := ⟨Y.dropLast, Y.getLast hY, (List.dropLast_concat_getLast hY).symm⟩
  cases Z with
  | nil => exact absurd rfl hZ
  | cons g gs =>
    rw [joinF_snoc]
    simp only [List.length_append, List.length_singleton, List.getD]
    by_cases h1 : i < X.length
    · rw [if_pos (by omega), if_neg (by omega), List.append_nil, List.getElem?_append_left h1, List.getElem?_append_left h1]
    · by_cases h2 : i = X.length
      · subst h2
        rw [if_pos (by omega), if_pos (by omega), List.getElem?_append_right (by omega), List.getElem?_append_right (by omega)]
        simp
      · rw [if_neg (by omega), if_pos (by omega), List.getElem?_append_right (by omega), List.nil_append]
        obtain ⟨j, rfl⟩ : ∃ j, i = X.length + 1 + j := ⟨i - X.length - 1, by omega⟩
        rw [show X.length + 1 + j - X.length = j + 1 by omega, show X.length + 1 + j + 1 - (X.length + 1) = j + 1 by omega]
        simp
theorem joinF_len (Y Z : Flds) (hY : Y ≠ []) (hZ : Z ≠ []) : (joinF Y Z).length + 1 = Y.length + Z.length := by
  obtain ⟨X, y, rfl⟩ : ∃ X y, Y = X ++ [y] := ⟨Y.dropLast, Y.getLast hY, (List.dropLast_concat_getLast hY).symm⟩
  cases Z with
  | nil => exact absurd rfl hZ
  | cons g gs => rw [joinF_snoc]; simp; omega
end Go.Proofs.YtklihdlfbhgpeaaDoor

namespace Go.Proofs.YtklihdlfbhgpeaaDoor
open Go.RowKit Go.ChangeShapes Go.WideShapes Go.Deep
set_option linter.unusedVariables false

theorem flat_get {α : Type} (f : α → List Value) (k : Nat) (hk : 0 < k) (hf : ∀ a, (f a).length = k) : ∀ (l : List α) (j : Nat) (u : Value), (l.flatMap f)[j]? = some u → ∃ a, l[j / k]? = some a ∧ (f a)[j % k]? = some u
  | [], j, u, h => by simp at h
  | a :: l, j, u, h => by
    rw [List.flatMap_cons] at h
    by_cases hj : j < k
    · rw [List.getElem?_append_left (by rw [hf]; exact hj)] at h
      exact ⟨a, by rw [Nat.div_eq_of_lt hj]; rfl, by rw [Nat.mod_eq_of_lt hj]; exact h⟩
    · rw [List.getElem?_append_right (by rw [hf]; omega), hf] at h
      obtain ⟨b, h1, h2⟩ := flat_get f k hk hf l (j - k) u h
      refine ⟨b, ?_, ?_⟩
      · have e : j / k = (j - k) / k + 1 := by
          have := Nat.add_div_right (j - k) hk
          rw [← this]
          congr 1
          omega
        rw [e, List.getElem?_cons_succ]
        exact h1
      · have e : j % k = (j - k) % k := Nat.mod_eq_sub_mod (by omega)
        rw [e]
        exact h2
theorem flat_len {α : Type} (f : α → List Value) (k : Nat) (hf : ∀ a, (f a).length = k) : ∀ l : List α, (l.flatMap f).length = l.length * k
  | [] => by simp
  | a :: l => by rw [List.flatMap_cons, List.length_append, hf, flat_len f k hf l, List.length_cons, Nat.succ_mul]; omega
section
variable {H : Type} {enc : TypeId × Value → H} {w : World} {base : Nat} {spare : Nat → Bool} {held : Bool}
theorem row_open {α : Type} [Inhabited α] {t e : TypeId} (k : Nat) (f : α → List Value) (ht : Tryd.prog.underlying t = some (.slice e)) (hk : Tryd.prog.cellsOf e = k) (hk0 : 0 < k) (hf : ∀ a, (f a).length = k)
    (hone : ∀ (fuel : Nat) (cs : List Value) (x : DataW H × List MemPlace), DataW.trod enc Tryd.prog w base spare held fuel e cs = some x → ∃ a, cs = f a)
    {fuel : Nat} {cs : List Value} {x : DataW H × List MemPlace} (h : DataW.trod enc Tryd.prog w base spare held fuel t cs = some x) :
    ∃ (A : Option Addr) (cap : Nat) (l : List α), cs = [.slice A l.length cap] ∧ Rc w k A l.length (l.flatMap f) := by
  rcases DataW.trod_slice ht h with ⟨rfl, _⟩ | ⟨a, len, cap, elems, rest, n, hfu, rfl, rfl, _, hl, hm, hel, hi, _, _⟩
  · exact ⟨none, 0, [], rfl, by simp, fun h => absurd h (by simp)⟩
  · have hE : ∀ i, i < len → ∃ p : α, w.cells? base (a.add (i * k)) k = some (f p) := by
      intro i hil
      have h1 := hi i hil
      rw [hk] at h1
      have h2 : elems[i]? = some elems[i] := List.getElem?_eq_getElem (by omega)
      rw [h2, Option.bind_eq_some_iff] at h1
      obtain ⟨cs', hc, ht'⟩ := h1
      obtain ⟨p, rfl⟩ := hone _ _ _ ht'
      exact ⟨p, hc⟩
    obtain ⟨g, hF⟩ := choose_lt hE
    have hrl : ((List.range len).map g).length = len := by simp
    refine ⟨some a, cap, (List.range len).map g, by rw [hrl], ?_, fun h0 => ?_⟩
    · exact flat_len f k hf _
    · rw [hrl] at h0
      obtain ⟨b, off, spot⟩ := a
      obtain ⟨_, _, hat0⟩ := World.cells?_some (hF 0 h0)
      obtain ⟨u0, hu0⟩ : ∃ u, (f (g 0))[0]? = some u := ⟨_, List.getElem?_eq_getElem (by rw [hf]; exact hk0)⟩
      have hc0 := hat0 0 hk0
      rw [hu0] at hc0
      have hspot : spot = none := by
        have := World.cell?_spot hc0
        simpa [Addr.add] using this
      subst hspot
      have hadd : ∀ i, (⟨b, off, none⟩ : Addr).add i = ⟨b, off + i, none⟩ := fun i => by unfold Addr.add; split <;> simp_all
      refine ⟨b, off, rfl, ?_, fun j u hj => ?_⟩
      · have := World.block_lt_of_cell? w _ hc0
        simpa [Addr.add] using this
      · obtain ⟨p, hp, hu⟩ := flat_get f k hk0 hf _ j u hj
        have hil : j / k < len := by
          have := (List.getElem?_eq_some_iff.1 hp).1
          omega
        rw [List.getElem?_map, List.getElem?_range hil] at hp
        obtain rfl : g (j / k) = p := by simpa using hp
        obtain ⟨_, _, hat⟩ := World.cells?_some (hF (j / k) hil)
        have h1 := hat (j % k) (Nat.mod_lt _ hk0)
        rw [hu, hadd] at h1
        have e1 : (⟨b, off + j / k * k, none⟩ : Addr).add (j % k) = ⟨b, off + j, none⟩ := by
          have e2 : j / k * k + j % k = j := by rw [Nat.mul_comm]; exact Nat.div_add_mod j k
          have e3 : (⟨b, off + j / k * k, none⟩ : Addr).add (j % k) = ⟨b, off + j / k * k + j % k, none⟩ := by unfold Addr.add; split <;> simp_all
          rw [e3, Nat.add_assoc, e2]
        rw [e1] at h1
        exact h1
theorem text_one (fuel : Nat) (cs : List Value) (x : DataW H × List MemPlace) (h : DataW.trod enc Tryd.prog w base spare held fuel 9 cs = some x) : ∃ s : Str, cs = [.string ⟨s.toArray⟩] := by
  obtain ⟨s, h1, _⟩ := DataW.trod_string Tryd.underlying9 h
  exact ⟨s.data.toList, h1⟩
theorem txv_flat : ∀ l : List Str, l.flatMap (fun s => [Value.string ⟨s.toArray⟩]) = txv l
  | [] => rfl
  | s :: l => by rw [List.flatMap_cons, txv_flat l]; rfl
theorem texts_openC {fuel : Nat} {cs : List Value} {x : DataW H × List MemPlace} (h : DataW.trod enc Tryd.prog w base spare held fuel 24 cs = some x) : ∃ (A : Option Addr) (cap : Nat) (l : List Str), cs = [.slice A l.length cap] ∧ Rc w 1 A l.length (txv l) := by
  obtain ⟨A, cap, l, h1, h2⟩ := row_open 1 (fun s : Str => [Value.string ⟨s.toArray⟩]) Tryd.underlying24 (by kernel_rfl) (by decide) (fun _ => rfl) text_one h
  rw [txv_flat] at h2
  exact ⟨A, cap, l, h1, h2⟩
set_option maxRecDepth 100000 in
theorem var_one (fuel : Nat) (cs : List Value) (x : DataW H × List MemPlace) (h : DataW.trod enc Tryd.prog w base spare held fuel 44 cs = some x) : ∃ v : Str × Str, cs = [.string ⟨v.1.toArray⟩, .string ⟨v.2.toArray⟩] := by
  obtain ⟨xs, m, hfu, rfl, hlen, hxl, hf⟩ := DataW.trod_struct Tryd.underlying44 h
  have h2 : cs.length = 2 := hlen.trans (by kernel_rfl)
  have hx2 : xs.length = 2 := hxl
  match cs, h2 with
  | [c0, c1], _ =>
    match xs, hx2 with
    | [y0, y1], _ =>
      have f0 := hf 0 _ rfl
      have f1 := hf 1 _ rfl
      simp only [List.getElem?_cons_zero, List.getElem?_cons_succ] at f0 f1
      obtain ⟨s1, h1, _⟩ := DataW.trod_string Tryd.underlying9 f0
      obtain ⟨s2, h2, _⟩ := DataW.trod_string Tryd.underlying9 f1
      have e0 : c0 = .string s1 := by injection h1
      have e1 : c1 = .string s2 := by injection h2
      subst e0 e1
      exact ⟨(s1.data.toList, s2.data.toList), rfl⟩
theorem vars_openC {fuel : Nat} {cs : List Value} {x : DataW H × List MemPlace} (h : DataW.trod enc Tryd.prog w base spare held fuel 23 cs = some x) : ∃ (A : Option Addr) (cap : Nat) (l : List (Str × Str)), cs = [.slice A l.length cap] ∧ Rc w 2 A l.length (vrv l) :=
  row_open 2 (fun v : Str × Str => [Value.string ⟨v.1.toArray⟩, .string ⟨v.2.toArray⟩]) Tryd.underlying23 (by kernel_rfl) (by decide) (fun _ => rfl) var_one h
set_option maxRecDepth 100000 in
theorem given_open {fuel : Nat} {cs : List Value} {x : DataW H × List MemPlace} (h : DataW.trod enc Tryd.prog w base spare held fuel 26 cs = some x) :
    ∃ (AL : Option Addr) (cL : Nat) (l : List (Str × Str)) (AA : Option Addr) (cA : Nat) (al : List Str) (st : Int), cs = [.slice AL l.length cL, .slice AA al.length cA, .int .i64 st] ∧ Rc w 2 AL l.length (vrv l) ∧ Rc w 1 AA al.length (txv al) := by
  obtain ⟨xs, m, hfu, rfl, hlen, hxl, hf⟩ := DataW.trod_struct Tryd.underlying26 h
  have h3 : cs.length = 3 := hlen.trans (by kernel_rfl)
  have hx3 : xs.length = 3 := hxl
  match cs, h3 with
  | [c0, c1, c2], _ =>
    match xs, hx3 with
    | [y0, y1, y2], _ =>
      have f0 := hf 0 _ rfl
      have f1 := hf 1 _ rfl
      have f2 := hf 2 _ rfl
      simp only [List.getElem?_cons_zero, List.getElem?_cons_succ] at f0 f1 f2
      obtain ⟨AL, cL, l, h0, r0⟩ := vars_openC f0
      obtain ⟨AA, cA, al, h1, r1⟩ := texts_openC f1
      obtain ⟨st, h2, _⟩ := DataW.trod_int Tryd.underlying3 f2
      have e0 : c0 = .slice AL l.length cL := by injection h0
      have e1 : c1 = .slice AA al.length cA := by injection h1
      have e2 : c2 = .int .i64 st := by injection h2
      subst e0 e1 e2
      exact ⟨AL, cL, l, AA, cA, al, st, rfl, r0, r1⟩
end
end Go.Proofs.YtklihdlfbhgpeaaDoor
