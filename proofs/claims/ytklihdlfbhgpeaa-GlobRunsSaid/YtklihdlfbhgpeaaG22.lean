/-
  The walk of GlobRuns.
-/
import Derived.Test.YtklihdlfbhgpeaaG18
namespace Go.Proofs.Ytklihdlfbhgpeaa
open Go.RowKit
set_option linter.unusedVariables false

/-- A run, character by character, with empty quoted runs between. -/
def splitR (q s : Bool) (t : List UInt8) : List RunV := t.flatMap fun b => [⟨[b], q, !s⟩, ⟨[], true, false⟩]
def qL (rs : List RunV) : List RunV := rs.flatMap fun r => splitR r.q r.s r.t
theorem chs_splitR (q s : Bool) : ∀ t : List UInt8, chs (splitR q s t) = t.map fun b => (b, q)
  | [] => rfl
  | b :: t => by
    have := chs_splitR q s t
    simp only [splitR, chs, List.flatMap_cons, List.flatMap_append] at this ⊢
    rw [this]
    simp [chr]
theorem chs_qL : ∀ rs : List RunV, chs (qL rs) = chs rs
  | [] => rfl
  | r :: rs => by
    have h1 := chs_qL rs
    have h2 := chs_splitR r.q r.s r.t
    have e1 : qL (r :: rs) = splitR r.q r.s r.t ++ qL rs := rfl
    rw [e1, chs_append, h1, h2]
    simp [chs, chr]
theorem splitR_len (q s : Bool) : ∀ t : List UInt8, (splitR q s t).length = 2 * t.length
  | [] => rfl
  | b :: t => by
    have := splitR_len q s t
    simp only [splitR, List.flatMap_cons, List.length_append, List.length_cons, List.length_nil] at this ⊢
    omega
theorem qL_len : ∀ rs : List RunV, (qL rs).length = 2 * (chs rs).length
  | [] => rfl
  | r :: rs => by
    have h1 := qL_len rs
    have e1 : qL (r :: rs) = splitR r.q r.s r.t ++ qL rs := rfl
    rw [e1, List.length_append, h1, splitR_len, chs_cons]
    omega
theorem qL_succ (rs : List RunV) {k : Nat} (h : k < rs.length) : qL (rs.take (k + 1)) = qL (rs.take k) ++ splitR (rs.getD k run0).q (rs.getD k run0).s (rs.getD k run0).t := by
  rw [getD_succ rs run0 h]
  simp [qL]
theorem splitR_succ (q s : Bool) (t : List UInt8) {i : Nat} (h : i < t.length) : splitR q s (t.take (i + 1)) = splitR q s (t.take i) ++ [⟨[t.getD i 0], q, !s⟩, ⟨[], true, false⟩] := by
  rw [getD_succ t 0 h]
  simp [splitR]
theorem byte_slice (t : List UInt8) {i : Nat} (h : i < t.length) : (t.drop i).take 1 = [t.getD i 0] := by
  rw [drop_byte h]; rfl

set_option maxRecDepth 100000 in
set_option maxHeartbeats 4000000 in
theorem globRuns_list (A : Option Addr) (c : Nat) (rs : List RunV) (hn : rs.length ≤ maxLen) (l : List UInt8) (w : World) (hr : Rns w A rs) :
    Calls Try.prog 8 #[.slice A rs.length c, .string ⟨l.toArray⟩] w fun e w' => e = .returned (.bool true) ∧ Below w.heap.size w w' := by
  obtain ⟨i0, hi, hz0, hz1, hz2⟩ := info_parts info33
  have HR := hid hr
  obtain ⟨m, hm⟩ : ∃ m, m = min l.length 12 := ⟨_, rfl⟩
  have hmin : min (l.length : Int) 12 = (m : Int) := by omega
  have hml : (m : Int) ≤ l.length := by omega
  have hm0 : (0 : Int) ≤ (m : Int) := by omega
  have hsl : (l.take m).length ≤ 1000000 := by rw [List.length_take]; omega
  clear hr hm
  go_enter Try.func8, Try.ntmps8
  go_wp2_with fail
  refine (works_any _).mono ?_
  rintro e w1 ⟨rfl, hb1⟩
  go_wp2_with fail
  refine (cut_any A c rs hn w1 (HR.out.below hb1)).mono ?_
  rintro e w2 ⟨⟨B, d, rfl, hp⟩, hb2⟩
  have hB2 := hb1.trans (hb2.mono hb1.size)
  have hcl := cutGo_all 14 (rs.take 14)
  have hcn : (cutL rs).length ≤ 14 := by rw [cutL, cutGo_len, List.length_take]; omega
  have hca : (chs (cutL rs)).length ≤ 14 := hcl
  obtain ⟨ps, hps⟩ : ∃ ps, ps = cutL rs := ⟨_, rfl⟩
  rw [← hps] at hp hcn hca ⊢
  have HP := hid hp
  have hnI : (ps.length : Int) ≤ 14 := by omega
  clear hps hp hb1 hb2 hcl HR
  go_wp2_with fail
  go_loopg [5, 6] ps.length (fun m v5 v6 wr => ∃ k : Nat, m + k = ps.length ∧ v6 = .int .i64 k ∧ wr.ownsRow w2.heap.size 33 3 v5 (qL (ps.take k)).length (rnv (qL (ps.take k))) ∧ Below w2.heap.size w2 wr)
  case atStart => exact ⟨0, rfl, rfl, World.ownsRow_nil _ _ _ _, Below.refl _ _⟩
  case round =>
    obtain ⟨k, hm, rfl, hown, hB⟩ := hrel
    obtain ⟨g0, rfl⟩ : ∃ g0 : Nat, g0 = gk := ⟨_, rfl⟩
    have HM := hid hm
    clear hm
    by_cases hlt : k < ps.length
    · obtain ⟨b, off, rfl, _⟩ := Rns.at_ (Rc.below HP.out.rows hB) hlt
      have hkI : (k : Int) < ps.length := by omega
      have HSC := hid (qL_succ ps hlt)
      have HEA := hid (each_le (l := ps) (r := ps.getD k run0) (by rw [List.getD, List.getElem?_eq_getElem hlt]; exact List.getElem_mem hlt))
      have hql := qL_len (ps.take k)
      have hcl : (chs (ps.take k)).length ≤ 14 := by
        have := congrArg List.length (chs_split ps hlt)
        rw [List.length_append] at this
        omega
      have HQL : Hid ((qL (ps.take k)).length ≤ 28) := hid (by omega)
      clear hql hcl
      go_wp2_with fail
      go_loopg [5, 7] (ps.getD k run0).t.length (fun m v5 v7 wi => ∃ i : Nat, m + i = (ps.getD k run0).t.length ∧ v7 = .int .i64 i ∧
        wi.ownsRow w2.heap.size 33 3 v5 (qL (ps.take k) ++ splitR (ps.getD k run0).q (ps.getD k run0).s ((ps.getD k run0).t.take i)).length (rnv (qL (ps.take k) ++ splitR (ps.getD k run0).q (ps.getD k run0).s ((ps.getD k run0).t.take i))) ∧ Below w2.heap.size w2 wi)
      case atStart => exact ⟨0, rfl, rfl, by simpa [splitR] using hown, hB⟩
      case round =>
        clear hown hB
        obtain ⟨i, hm, rfl, hown, hB⟩ := hrel
        obtain ⟨_, _, e0, hb, a1, a2, a3⟩ := Rns.at_ (Rc.below HP.out.rows hB) hlt
        injection e0 with e0
        injection e0 with e1 e2
        subst e1 e2
        have hea := HEA.out
        obtain ⟨r, hr⟩ : ∃ r, r = ps.getD k run0 := ⟨_, rfl⟩
        rw [← hr] at a1 a2 a3 hown hea hm
        obtain ⟨t, q, s⟩ := r
        dsimp only at a1 a2 a3 hown hea hm
        have HRR := hid hr
        have HI := hid hm
        have htl : t.length ≤ 14 := by omega
        have htI : (t.length : Int) ≤ 14 := by omega
        clear hr hm hea
        by_cases hti : i < t.length
        · have hiI : (i : Int) < t.length := by omega
          have hiJ : (i : Int) + 1 ≤ t.length := by omega
          have hiK : (i : Int) ≤ (i : Int) + 1 := by omega
          have hiZ : (0 : Int) ≤ (i : Int) := by omega
          have hss := splitR_succ q s t hti
          have hbs := byte_slice t hti
          obtain ⟨x, hx⟩ : ∃ x, x = t.getD i 0 := ⟨_, rfl⟩
          rw [← hx] at hss hbs
          have hpl : (qL (ps.take k) ++ splitR q s (t.take i)).length ≤ 100 := by
            rw [List.length_append, splitR_len, List.length_take]
            have := HQL.out
            omega
          obtain ⟨pre, hpre⟩ : ∃ pre, pre = qL (ps.take k) ++ splitR q s (t.take i) := ⟨_, rfl⟩
          rw [← hpre] at hown hpl
          have HPRE := hid hpre
          have HSS := hid hss
          have HBS := hid hbs
          have HOWN : Hid (wr.drew.ownsRow w2.heap.size 33 3 u5 pre.length (rnv pre)) := hid (hown.kept (row := none) ⟨rfl, rfl, rfl, Nat.le_refl _, fun _ _ _ => rfl⟩ (by cases h : u5.ownBlock <;> simp))
          clear hss hbs hpre hx hown
          go_wp2_with fail
          have hwr : IntKind.i64.wrap ((i : Int) + 1) = (i : Int) + 1 := IntWalk.i64_in _ (by omega)
          have hzp : (0 : Int) ≤ (i : Int) + 1 := by omega
          have htn : ((i : Int) + 1).toNat = i + 1 := by omega
          go_region_law ((refine step_append_own (by rfl) (.tmp 33) (.tmp 56) 22 (by rfl) w2.heap.size 33 i0 (.agg #[.string ⟨#[]⟩, .bool false, .bool false]) 3 24 Try.underlying22 hi hz0 hz1 hz2 (by rfl) (by decide) u5 pre.length (rnv pre) (by rfl) (by exact HOWN.out.alloc _) ⟨wr.heap.size, 0, none⟩ 2 2 [.string ⟨(List.take 1 (List.drop i t)).toArray⟩, .bool q, .bool (!s), .string ⟨#[]⟩, .bool true, .bool false] (by rfl) (by rfl) (by exact (World.news_of_block (cs := #[.string ⟨(List.take 1 (List.drop i t)).toArray⟩, .bool q, .bool (!s), .string ⟨#[]⟩, .bool true, .bool false]) (heap_alloc_new wr.drew _))) (by simp [Value.oneCell']) (by unfold maxLen; omega) (by omega) (by have := hB.size; simp; omega) ?_; intro v' w3 hown' hgrow))
          all_goals
            have hB3 : Below w2.heap.size w2 w3 := (hB.alloc hB.size _).drew.grown hgrow (by have := hB.size; simp; omega) (fun j hj => (HOWN.out.lt j hj).1)
            go_wp2_with fail
            go_roundg (gk - 1)
            case measure => go_light; have := HI.out; omega
            case rel =>
              go_light
              have := HI.out
              have e1 : qL (ps.take k) ++ splitR q s (t.take (i + 1)) = pre ++ [⟨[x], q, !s⟩, ⟨[], true, false⟩] := by rw [HSS.out, ← List.append_assoc, ← HPRE.out]
              rw [HBS.out] at hown'
              rw [← HRR.out]
              refine ⟨i + 1, by show _ = t.length; omega, int_cast (by omega), ?_, hB3⟩
              rw [e1, rnv_append, List.length_append]
              exact hown'
        · obtain rfl : i = t.length := by have := HI.out; omega
          rw [List.take_length] at hown
          have hnx : wr.ownsRow w2.heap.size 33 3 u5 (qL (ps.take (k + 1))).length (rnv (qL (ps.take (k + 1)))) := by rw [HSC.out, ← HRR.out]; exact hown
          have HNX := hid hnx
          clear hown hnx hti
          go_wp2_with fail
          go_roundg (g0 - 1)
          case measure => go_light; have := HM.out; omega
          case rel =>
            go_light
            have := HM.out
            exact ⟨k + 1, by omega, int_cast (by omega), HNX.out, hB⟩
    · have := HM.out
      obtain rfl : k = ps.length := by omega
      rw [List.take_length] at hown
      have hql := qL_len ps
      have hqc := chs_qL ps
      have hf : ∃ D d', u5 = .slice D (qL ps).length d' := by
        rcases hown.2 with ⟨h1, h2⟩ | ⟨g, cap, cur, h1, _⟩
        · exact ⟨none, 0, by rw [h1, h2]⟩
        · exact ⟨_, _, h1⟩
      obtain ⟨D, d', rfl⟩ := hf
      have hpq : Pat wr D (qL ps) := ⟨Rc.of_own hown, by omega, fun r hr => by have := each_le hr; rw [hqc] at this; omega, by rw [hqc]; omega⟩
      have HP2 := hid (HP.out.below hB)
      have hk : Below w.heap.size w wr := hB2.trans (hB.mono hB2.size)
      obtain ⟨o, ho⟩ : ∃ o, o = matchP (pieces (chs ps)) (l.take m) := ⟨_, rfl⟩
      obtain ⟨g, hg⟩ : ∃ g, g = magicL (chs ps) := ⟨_, rfl⟩
      have HM1 := hid (fun W (hW : Below wr.heap.size wr W) => match_any' B d ps (l.take m) hsl W (HP2.out.below hW))
      have HM2 := hid (fun W (hW : Below wr.heap.size wr W) => match_any' D d' (qL ps) (l.take m) hsl W (hpq.below hW))
      have HG1 := hid (fun W (hW : Below wr.heap.size wr W) => magic_any B d ps W (HP2.out.below hW))
      have HG2 := hid (fun W (hW : Below wr.heap.size wr W) => magic_any D d' (qL ps) W (hpq.below hW))
      have HL1 := hid (fun W (hW : Below wr.heap.size wr W) => plain_any B d ps W (HP2.out.below hW))
      have HL2 := hid (fun W (hW : Below wr.heap.size wr W) => plain_any D d' (qL ps) W (hpq.below hW))
      have hpl : plainL (qL ps) = plainL ps := by rw [← plain_chs, ← plain_chs, hqc]
      rw [hpl] at HL2
      rw [hqc, ← ho] at HM2
      rw [hqc, ← hg] at HG2
      rw [← ho] at HM1
      rw [← hg] at HG1
      clear this hlt hown hql hqc hpq ho hg hpl
      go_wp2_with fail
      refine (HM1.out _ (Below.refl _ _)).mono ?_
      rintro e w3 ⟨rfl, hb3⟩
      go_wp2_with fail
      refine (HM2.out _ hb3).mono ?_
      rintro e w4 ⟨rfl, hb4⟩
      have hb4 := hb3.trans (hb4.mono hb3.size)
      go_wp2_with fail
      refine (HG1.out _ hb4).mono ?_
      rintro e w5 ⟨rfl, hb5⟩
      have hb5 := hb4.trans (hb5.mono hb4.size)
      go_wp2_with fail
      refine (HG2.out _ hb5).mono ?_
      rintro e w6 ⟨rfl, hb6⟩
      have hb6 := hb5.trans (hb6.mono hb5.size)
      go_wp2_with fail
      refine (HL1.out _ hb6).mono ?_
      rintro e w7 ⟨rfl, hb7⟩
      have hb7 := hb6.trans (hb7.mono hb6.size)
      go_wp2_with fail
      refine (HL2.out _ hb7).mono ?_
      rintro e w8 ⟨rfl, hb8⟩
      have hb8 := hb7.trans (hb8.mono hb7.size)
      go_wp2_with fail
      go_ret
      exact ⟨rfl, hk.trans (hb8.mono hk.size)⟩
theorem globRuns_walk (A : Option Addr) (c : Nat) (rs : List RunV) (hn : rs.length ≤ maxLen) (s : ByteArray) (w : World) (hr : Rns w A rs) :
    Calls Try.prog 8 #[.slice A rs.length c, .string s] w fun e w' => e = .returned (.bool true) ∧ Below w.heap.size w w' := by
  rw [bytes_list s]
  exact globRuns_list A c rs hn _ w hr
end Go.Proofs.Ytklihdlfbhgpeaa
