import Derived.Test.YtohnchkoldbpcaaQC4
import Derived.ProofKit
import Derived.OpenShut
import Derived.ShutString
import Derived.ChangeOld
import Derived.SizedLaws
import Derived.Deep.Slices
import Derived.Deep.Fields
set_option linter.unusedVariables false
set_option linter.unusedSimpArgs false
/- agent, AgentCalm: the walk. -/
namespace Go.Proofs.Ytohnchkoldbpcaa
open Go Go.RowKit Go.Proofs

theorem drainN_succ : ∀ (k : Nat) (p : PlayS), drainN (k + 1) p = drain1 (drainN k p)
  | 0, _ => rfl
  | k + 1, p => drainN_succ k (drain1 p)
theorem drainN_add : ∀ (a b : Nat) (p : PlayS), drainN (a + b) p = drainN b (drainN a p)
  | 0, b, p => by rw [Nat.zero_add]; rfl
  | a + 1, b, p => by rw [show a + 1 + b = (a + b) + 1 by omega]; exact drainN_add a b (drain1 p)
theorem drainN_fix : ∀ (k : Nat) {p : PlayS}, p.n = [] → drainN k p = p
  | 0, _, _ => rfl
  | k + 1, p, h => by
    have e : drain1 p = p := by unfold drain1; rw [h]; simp
    rw [drainN, e]
    exact drainN_fix k h
theorem drainN_end {k : Nat} {p : PlayS} (hk : k ≤ 300) (h : (drainN k p).n = []) : drainN 300 p = drainN k p := by
  have e : drainN (k + (300 - k)) p = drainN (300 - k) (drainN k p) := drainN_add k (300 - k) p
  rw [show k + (300 - k) = 300 by omega] at e
  rw [e]
  exact drainN_fix _ h
theorem drainN_good {K : Int} {R : Nat} {p : PlayS} (g : GoodP K R p) (hR : R ≤ 1000000) (k : Nat) : GoodP K R (drainN k p) :=
  (drainN_ind (P := fun _ => True) hR (fun _ _ _ _ _ _ => trivial) k g trivial).1
theorem roundsS_succ (j : Nat) (p : PlayS) : roundsS (j + 1) p = roundS (roundsS j p) := roundsS_add j 1 p
theorem roundS_def (p : PlayS) : roundS p = tickS (drainN 300 p) := by unfold roundS; rw [drainA_def]
theorem open_zero {p m : Nat} {u : Value} {bs : List Nat} {h : HubS} {w : World} (h0 : h.openN = 0) (H : HubAt w p m u bs h) :
    Calls Try.prog 12 #[.pointer (some ⟨p, 0, none⟩)] w fun e w' => e = .returned (.int .i64 0) ∧ Fr No w w' := by
  have := openN_any p m u bs h w H
  rw [h0] at this
  exact this
def CaRel (w : World) (p0 : Nat) (N : Nat) (g : Nat) (v4 : Value) (wr : World) : Prop :=
  ∃ (i : Nat) (b : PlB) (p : PlayS), i + g = N ∧ i ≤ 120 ∧ v4 = .int .i64 i ∧ b.p0 = p0 ∧ PlAt w.heap.size wr b p ∧ GoodP (100 + 7 * i) i p ∧ Fr No w wr
def CbRel (w : World) (p0 : Nat) (P : PlayS) (g : Nat) (v5 : Value) (wr : World) : Prop :=
  ∃ (j : Nat) (b : PlB), j + g = 60 ∧ v5 = .int .i64 j ∧ b.p0 = p0 ∧ PlAt w.heap.size wr b (roundsS j P) ∧ Fr No w wr
def CcRel (w : World) (p0 : Nat) (Q : PlayS) (g : Nat) (v6 : Value) (wr : World) : Prop :=
  ∃ (k : Nat) (b : PlB), k + g = 300 ∧ v6 = .int .i64 k ∧ b.p0 = p0 ∧ PlAt w.heap.size wr b (drainN k Q) ∧ Fr No w wr
set_option maxRecDepth 100000 in
set_option maxHeartbeats 4000000 in
theorem agentCalm_walk (A : Option Addr) (c : Nat) (t : TypeId) (ss : List AStep) (w : World) (hs : Sl w t 2 A ss.length (ss.flatMap AStep.vals)) (ho : ∀ s ∈ ss, s.Ok) (hl : ss.length ≤ maxLen) :
    Calls Try.prog 4 #[.slice A ss.length c] w fun e w' => e = .returned (.bool true) ∧ Fr No w w' := by
  have HS := Lib.hid hs
  have HO := Lib.hid ho
  have hl0 : (0 : Int) ≤ (ss.length : Int) := by omega
  have hl1 : (ss.length : Int) ≤ 9223372036854775807 := by simp only [maxLen] at hl; omega
  clear hs ho hl
  go_enter Try.func4, Try.ntmps4
  go_wp2_with (go_at_call 17; apply stopHere)
  unfold StopHere
  refine (begin_any _).mono ?_
  rintro e w1 ⟨b0, rfl, hX1, hf1⟩
  obtain ⟨p0, hp0⟩ : ∃ p0, p0 = b0.p0 := ⟨_, rfl⟩
  rw [← hp0]
  have HP0 := Lib.hid hp0
  have HX1 := Lib.hid hX1
  have HF1 := Lib.hid hf1
  clear hX1 hf1 hp0
  go_wp2
  go_loopg [4] ss.length (fun g v4 wr => CaRel w p0 ss.length g v4 wr)
  case atStart => exact ⟨0, b0, beginS, by omega, by omega, rfl, HP0.out.symm, HX1.out.fr0 (by (repeat (first | exact Fr.refl _ _ | assumption | refine Fr.drew ?_ | refine Fr.drewL ?_ | refine Fr.alloc ?_ _))), ⟨inv_begin, cinv_begin, numB_begin.mono (by omega) (Nat.le_refl _)⟩, HF1.out.trans (by (repeat (first | exact Fr.refl _ _ | assumption | refine Fr.drew ?_ | refine Fr.drewL ?_ | refine Fr.alloc ?_ _)))⟩
  case round =>
    obtain ⟨i, b, p, hgi, hi200, rfl, hb, hX, hG, hF⟩ := hrel
    have HB := Lib.hid hb
    have HX := Lib.hid hX
    have HG := Lib.hid hG
    have HF := Lib.hid hF
    have hi0 : (0 : Int) ≤ (i : Int) := by omega
    clear hb hX hG hF
    by_cases hgo : i < ss.length ∧ i < 120
    · obtain ⟨hi, hi2⟩ := hgo
      have hi1 : (i : Int) < (ss.length : Int) := by omega
      have hi3 : (i : Int) < 120 := by omega
      obtain ⟨s, hss⟩ : ∃ s, ss[i]? = some s := ⟨_, List.getElem?_eq_getElem hi⟩
      obtain ⟨g1, o1, rfl, hg1, m0, m1⟩ := steps_at (HS.out.fr0 HF.out) hss
      have HSO := Lib.hid (HO.out s (List.mem_of_getElem? hss))
      clear hss
      go_wp2_with (go_at_call 18; apply stopHere)
      unfold StopHere
      have hst := lstep_any _ b p _ HX.out HG.out.i HG.out.b (by omega) (by omega) s HSO.out
      rw [HB.out] at hst
      refine hst.mono ?_
      clear hst
      rintro e w3 ⟨b3, ⟨v3, rfl⟩, hb3, hX3, hF3⟩
      have HX3 := Lib.hid hX3
      have HG3 : Hid (GoodP (100 + 7 * ((i + 1 : Nat) : Int)) (i + 1) (stepS p s)) := Lib.hid ⟨inv_step HG.out.i s, cinv_step HG.out.i HG.out.c (by have := HG.out.b.hl; omega) s, (HG.out.b.step s).mono (by omega) (Nat.le_refl _)⟩
      have HF3 := Lib.hid (HF.out.step hF3 fun k hk => .inr (HX.out.low k hk))
      have HB3 := Lib.hid (hb3.trans HB.out)
      clear hX3 hF3 hb3 m0 m1 hg1
      go_wp2
      go_roundg (ss.length - (i + 1))
      case measure => omega
      case rel => exact ⟨i + 1, b3, stepS p s, by omega, by omega, by go_num, HB3.out, HX3.out.fr0 (by (repeat (first | exact Fr.refl _ _ | assumption | refine Fr.drew ?_ | refine Fr.drewL ?_ | refine Fr.alloc ?_ _))), HG3.out, HF3.out.trans (by (repeat (first | exact Fr.refl _ _ | assumption | refine Fr.drew ?_ | refine Fr.drewL ?_ | refine Fr.alloc ?_ _)))⟩
    · have hcond : decide ((i : Int) < (ss.length : Int)) = false ∨ (decide ((i : Int) < (ss.length : Int)) = true ∧ decide ((i : Int) < 120) = false) := by
        by_cases h1 : i < ss.length
        · refine .inr ⟨by simp only [decide_eq_true_eq]; omega, by simp only [decide_eq_false_iff_not]; omega⟩
        · refine .inl (by simp only [decide_eq_false_iff_not]; omega)
      have HGP : Hid (GoodP 940 120 p) := Lib.hid ⟨HG.out.i, HG.out.c, HG.out.b.mono (by omega) hi200⟩
      clear hgo
      rcases hcond with h1 | ⟨h1, h2⟩
      · have h1' : ¬ i < ss.length := by simp only [decide_eq_false_iff_not] at h1; omega
        clear hgi
        go_wp2
        go_loopg [5] 60 (fun g v5 wr => CbRel w p0 p g v5 wr)
        case atStart => exact ⟨0, b, by omega, rfl, HB.out, HX.out.fr0 (by (repeat (first | exact Fr.refl _ _ | assumption | refine Fr.drew ?_ | refine Fr.drewL ?_ | refine Fr.alloc ?_ _))), HF.out.trans (by (repeat (first | exact Fr.refl _ _ | assumption | refine Fr.drew ?_ | refine Fr.drewL ?_ | refine Fr.alloc ?_ _)))⟩
        case round =>
          obtain ⟨j, b4, hgj, rfl, hb4, hX4, hF4⟩ := hrel
          have HB4 := Lib.hid hb4
          have HX4 := Lib.hid hX4
          have HF4 := Lib.hid hF4
          have HG4 := Lib.hid (rounds_good (by omega) j HGP.out)
          have hj0 : (0 : Int) ≤ (j : Int) := by omega
          clear hb4 hX4 hF4
          by_cases hj : j < 60
          · have hj1 : (j : Int) < 60 := by omega
            obtain ⟨Q, hQ⟩ : ∃ Q, Q = roundsS j p := ⟨_, rfl⟩
            rw [← hQ] at HX4 HG4
            have HQ := Lib.hid hQ
            clear hQ
            go_wp2
            go_loopg [6] 300 (fun g v6 wr => CcRel w p0 Q g v6 wr)
            case atStart => exact ⟨0, b4, by omega, rfl, HB4.out, HX4.out.fr0 (by (repeat (first | exact Fr.refl _ _ | assumption | refine Fr.drew ?_ | refine Fr.drewL ?_ | refine Fr.alloc ?_ _))), HF4.out.trans (by (repeat (first | exact Fr.refl _ _ | assumption | refine Fr.drew ?_ | refine Fr.drewL ?_ | refine Fr.alloc ?_ _)))⟩
            case round =>
              obtain ⟨k, b5, hgk, rfl, hb5, hX5, hF5⟩ := hrel
              have HB5 := Lib.hid hb5
              have HX5 := Lib.hid hX5
              have HF5 := Lib.hid hF5
              have HG5 := Lib.hid (drainN_good HG4.out (by omega) k)
              have hk0 : (0 : Int) ≤ (k : Int) := by omega
              have y2 := hX5.blk.cell 2
              have yl := hX5.blk.lt
              simp only [List.getElem?_cons_zero, List.getElem?_cons_succ] at y2
              rw [hb5] at y2 yl
              clear hb5 hX5 hF5
              by_cases hk : k < 300
              · have hk1 : (k : Int) < 300 := by omega
                obtain ⟨q, hq⟩ : ∃ q, q = drainN k Q := ⟨_, rfl⟩
                rw [← hq] at HX5 HG5
                have HQQ := Lib.hid hq
                clear hq
                go_wp2_with (go_at_call 19; apply stopHere)
                unfold StopHere
                refine (len_any b5.np b5.nm q.n [] _ HX5.out.net).mono ?_
                rintro e w6 ⟨rfl, hf6⟩
                have HX6 := Lib.hid (HX5.out.fr0 hf6)
                have HF6 := Lib.hid (HF5.out.trans hf6)
                clear hf6 y2 yl
                by_cases hn : 0 < q.n.length
                · have hn1 : (0 : Int) < (q.n.length : Int) := by omega
                  go_wp2_with (go_at_call 20; apply stopHere)
                  unfold StopHere
                  have hst := come_any _ b5 q _ HX6.out HG5.out.i HG5.out.b (by omega) (by omega) 0 hn
                  rw [HB5.out] at hst
                  refine hst.mono ?_
                  clear hst
                  rintro e w7 ⟨b7, ⟨v7, rfl⟩, hb7, hX7, hF7⟩
                  have HX7 := Lib.hid hX7
                  have HF7 := Lib.hid (HF6.out.step hF7 fun k hk => .inr (HX6.out.low k hk))
                  have HB7 : Hid (b7.p0 = p0) := Lib.hid hb7
                  have HD7 := Lib.hid (show drainN (k + 1) Q = comeS q 0 by rw [drainN_succ, ← HQQ.out]; unfold drain1; rw [if_pos hn])
                  clear hX7 hF7 hb7
                  go_wp2
                  go_roundg (300 - (k + 1))
                  case measure => omega
                  case rel => exact ⟨k + 1, b7, by omega, by go_num, HB7.out, by rw [HD7.out]; exact HX7.out.fr0 (by (repeat (first | exact Fr.refl _ _ | assumption | refine Fr.drew ?_ | refine Fr.drewL ?_ | refine Fr.alloc ?_ _))), HF7.out.trans (by (repeat (first | exact Fr.refl _ _ | assumption | refine Fr.drew ?_ | refine Fr.drewL ?_ | refine Fr.alloc ?_ _)))⟩
                · have hn1 : ¬ (0 : Int) < (q.n.length : Int) := by omega
                  have HDE := Lib.hid (show drainN 300 Q = q by rw [HQQ.out]; exact drainN_end (by omega) (by rw [← HQQ.out]; exact List.eq_nil_of_length_eq_zero (by omega)))
                  have HX8 := HX6
                  have HF8 := HF6
                  clear hgk
                  go_wp2_with (go_at_call 21; apply stopHere)
                  unfold StopHere
                  have hst := ltick_any _ (b5) q _ HX8.out HG5.out.i HG5.out.b (by omega) (by omega)
                  rw [HB5.out] at hst
                  refine hst.mono ?_
                  clear hst
                  rintro e w9 ⟨⟨v9, rfl⟩, hX9, hF9⟩
                  have HX9 := Lib.hid hX9
                  have HF9 := Lib.hid (HF8.out.step hF9 fun k hk => .inr (HX8.out.low k hk))
                  have HR9 := Lib.hid (show roundsS (j + 1) p = tickS q by rw [roundsS_succ, ← HQ.out, roundS_def, HDE.out])
                  clear hX9 hF9
                  go_wp2
                  go_roundg (60 - (j + 1))
                  case measure => omega
                  case rel => exact ⟨j + 1, b5, by omega, by go_num, HB5.out, by rw [HR9.out]; exact HX9.out.fr0 (by (repeat (first | exact Fr.refl _ _ | assumption | refine Fr.drew ?_ | refine Fr.drewL ?_ | refine Fr.alloc ?_ _))), HF9.out.trans (by (repeat (first | exact Fr.refl _ _ | assumption | refine Fr.drew ?_ | refine Fr.drewL ?_ | refine Fr.alloc ?_ _)))⟩
              · have hk1 : ¬ (k : Int) < 300 := by omega
                obtain rfl : k = 300 := by omega
                obtain ⟨q, hq⟩ : ∃ q, q = drainN 300 Q := ⟨_, rfl⟩
                rw [← hq] at HX5 HG5
                have HDE := Lib.hid hq.symm
                have HX8 := HX5
                have HF8 := HF5
                clear hq hgk y2 yl
                go_wp2_with (go_at_call 21; apply stopHere)
                unfold StopHere
                have hst := ltick_any _ (b5) q _ HX8.out HG5.out.i HG5.out.b (by omega) (by omega)
                rw [HB5.out] at hst
                refine hst.mono ?_
                clear hst
                rintro e w9 ⟨⟨v9, rfl⟩, hX9, hF9⟩
                have HX9 := Lib.hid hX9
                have HF9 := Lib.hid (HF8.out.step hF9 fun k hk => .inr (HX8.out.low k hk))
                have HR9 := Lib.hid (show roundsS (j + 1) p = tickS q by rw [roundsS_succ, ← HQ.out, roundS_def, HDE.out])
                clear hX9 hF9
                go_wp2
                go_roundg (60 - (j + 1))
                case measure => omega
                case rel => exact ⟨j + 1, b5, by omega, by go_num, HB5.out, by rw [HR9.out]; exact HX9.out.fr0 (by (repeat (first | exact Fr.refl _ _ | assumption | refine Fr.drew ?_ | refine Fr.drewL ?_ | refine Fr.alloc ?_ _))), HF9.out.trans (by (repeat (first | exact Fr.refl _ _ | assumption | refine Fr.drew ?_ | refine Fr.drewL ?_ | refine Fr.alloc ?_ _)))⟩
          · have hj1 : ¬ (j : Int) < 60 := by omega
            obtain rfl : j = 60 := by omega
            have HA := Lib.hid (calm HGP.out (by omega) (by omega))
            obtain ⟨z, hz⟩ : ∃ z, z = roundsS 60 p := ⟨_, rfl⟩
            rw [← hz] at HX4 HG4 HA
            have HAS := Lib.hid (calm_asks HG4.out.i HG4.out.c HA.out)
            clear hz hgj
            go_wp2
            go_loopg [7] z.seen.length (fun g v7 wr' => InRel w.heap.size b4 z wr g v7 wr')
            case atStart => exact ⟨0, by omega, rfl, HX4.out.fr0 (by (repeat (first | exact Fr.refl _ _ | assumption | refine Fr.drew ?_ | refine Fr.drewL ?_ | refine Fr.alloc ?_ _))), by (repeat (first | exact Fr.refl _ _ | assumption | refine Fr.drew ?_ | refine Fr.drewL ?_ | refine Fr.alloc ?_ _))⟩
            case round =>
              obtain ⟨k, hgk, rfl, hX7, hF7⟩ := hrel
              have hk0 : (0 : Int) ≤ (k : Int) := by omega
              obtain ⟨As, cs, hvs, _⟩ := own_shape hX7.seen
              have y6 := hX7.blk.cell 6
              have yl := hX7.blk.lt
              simp only [List.getElem?_cons_zero, List.getElem?_cons_succ] at y6
              rw [hvs] at y6
              rw [HB4.out] at y6 yl
              have hsl : (z.seen.length : Int) ≤ 9223372036854775807 := by rw [HG4.out.i.h.seenL]; have := HG4.out.b.hl; omega
              have hsl0 : (0 : Int) ≤ (z.seen.length : Int) := by omega
              by_cases hk : k < z.seen.length
              · have hk1 : (k : Int) < (z.seen.length : Int) := by omega
                obtain ⟨x, hx⟩ : ∃ x, z.seen[k]? = some x := ⟨_, List.getElem?_eq_getElem hk⟩
                obtain ⟨gs, curs, hAs, hBs, hcs⟩ := row_cell (A := As) (c := cs) (n := z.seen.length) (by have h1 := hX7.seen; rw [hvs] at h1; exact h1) hx rfl
                subst hAs
                have s1 := hBs.cell k
                have s2 := hBs.lt
                rw [hcs, HAS.out.1 k x hx] at s1
                have HX7 := Lib.hid hX7
                have HF7 := Lib.hid hF7
                clear hX7 hF7 hvs hBs hcs hx
                go_wp2
                go_roundg (z.seen.length - (k + 1))
                case measure => omega
                case rel => exact ⟨k + 1, by omega, by go_num, HX7.out.fr0 (by (repeat (first | exact Fr.refl _ _ | assumption | refine Fr.drew ?_ | refine Fr.drewL ?_ | refine Fr.alloc ?_ _))), HF7.out.trans (by (repeat (first | exact Fr.refl _ _ | assumption | refine Fr.drew ?_ | refine Fr.drewL ?_ | refine Fr.alloc ?_ _)))⟩
              · obtain rfl : k = z.seen.length := by omega
                have HX7 := Lib.hid hX7
                have HF7 := Lib.hid (HF4.out.trans hF7)
                have hnn : ¬ ((z.seen.length : Int) < (z.seen.length : Int)) := by omega
                clear hX7 hF7 hvs hgk hk yl
                have y0 := HX7.out.blk.cell 0
                have y1 := HX7.out.blk.cell 1
                have y4 := HX7.out.blk.cell 4
                have y7 := HX7.out.blk.cell 7
                have yl := HX7.out.blk.lt
                simp only [List.getElem?_cons_zero, List.getElem?_cons_succ] at y0 y1 y4 y7
                rw [HB4.out] at y0 y1 y4 y7 yl
                rw [HAS.out.2.1] at y7
                have hbe : ((z.a.begun : Int) == z.run) = true := by simpa using HAS.out.2.2.2
                have HOP := Lib.hid HAS.out.2.2.1
                go_wp2
                refine wp_region_o [(0, 0), (1, 0), (2, 0), (3, 1), (4, 0), (5, 0), (6, 0), (7, 0), (8, 0), (9, 1), (10, 2), (11, 0), (12, 0), (13, 0), (14, 0), (15, 0), (16, 0), (19, 0), (20, 0), (21, 0), (17, 1), (22, 1), (18, 2), (23, 0), (24, 0), (25, 0), (26, 3), (27, 0), (28, 0)] (by kernel_rfl) (by kernel_rfl) ?_
                repeat (first
                  | (apply wpO_pure rfl rfl; (focus (intro w'; go_simp; (try rfl); done)); try simp only [Act.put, List.setIfInBounds_toArray, List.set_cons_zero, List.set_cons_succ])
                  | (apply wpO_read rfl rfl; (focus (intro w' hf' hs'; (try simp only [World.size_drew, World.cell?_drew, World.size_alloc, World.size_setCell] at hs'); go_simp; (try rfl); done)); try simp only [Act.put, List.setIfInBounds_toArray, List.set_cons_zero, List.set_cons_succ])
                  | (apply wpO_skip (by decide) rfl rfl; try simp only [Act.put, List.setIfInBounds_toArray, List.set_cons_zero, List.set_cons_succ]))
                refine wpO_loudE rfl fun K hK => ?_
                go_simp
                refine (open_zero HOP.out (HX7.out.fr0 (by (repeat (first | exact Fr.refl _ _ | assumption | refine Fr.drew ?_ | refine Fr.drewL ?_ | refine Fr.alloc ?_ _)))).hub).mono ?_
                rintro e w11 ⟨rfl, hf11⟩
                refine hK _ _ ⟨hf11, ?_⟩
                clear hK K
                have HX11 := Lib.hid ((HX7.out.fr0 (by (repeat (first | exact Fr.refl _ _ | assumption | refine Fr.drew ?_ | refine Fr.drewL ?_ | refine Fr.alloc ?_ _)))).fr0 hf11)
                have HF11 := Lib.hid ((HF7.out.trans (by (repeat (first | exact Fr.refl _ _ | assumption | refine Fr.drew ?_ | refine Fr.drewL ?_ | refine Fr.alloc ?_ _)))).trans hf11)
                clear y0 y1 y4 y7 yl hf11
                have y1 := HX11.out.blk.cell 1
                have y4 := HX11.out.blk.cell 4
                have yl := HX11.out.blk.lt
                simp only [List.getElem?_cons_zero, List.getElem?_cons_succ] at y1 y4
                rw [HB4.out] at y1 y4 yl
                repeat (first
                  | (apply wpO_pure rfl rfl; (focus (intro w'; go_simp; (try rfl); done)); try simp only [Act.put, List.setIfInBounds_toArray, List.set_cons_zero, List.set_cons_succ])
                  | (apply wpO_read rfl rfl; (focus (intro w' hf' hs'; (try simp only [World.size_drew, World.cell?_drew, World.size_alloc, World.size_setCell] at hs'); go_simp; (try rfl); done)); try simp only [Act.put, List.setIfInBounds_toArray, List.set_cons_zero, List.set_cons_succ])
                  | (apply wpO_skip (by decide) rfl rfl; try simp only [Act.put, List.setIfInBounds_toArray, List.set_cons_zero, List.set_cons_succ]))
                refine wpO_loudE rfl fun K hK => ?_
                go_simp
                refine (begun_any b4.aq b4.au b4.abs z.a _ HX11.out.ag).mono ?_
                rintro e w12 ⟨rfl, hf12⟩
                refine hK _ _ ⟨hf12, ?_⟩
                clear hK K
                have HF12 := Lib.hid (HF11.out.trans hf12)
                clear hf12 y1 y4 yl
                repeat (first
                  | (apply wpO_pure rfl rfl; (focus (intro w'; go_simp; (try rfl); done)); try simp only [Act.put, List.setIfInBounds_toArray, List.set_cons_zero, List.set_cons_succ])
                  | (apply wpO_read rfl rfl; (focus (intro w' hf' hs'; (try simp only [World.size_drew, World.cell?_drew, World.size_alloc, World.size_setCell] at hs'); go_simp; (try rfl); done)); try simp only [Act.put, List.setIfInBounds_toArray, List.set_cons_zero, List.set_cons_succ])
                  | (apply wpO_skip (by decide) rfl rfl; try simp only [Act.put, List.setIfInBounds_toArray, List.set_cons_zero, List.set_cons_succ]))
                refine wpO_loud rfl fun K hK => ?_
                go_simp
                refine (agknown _).mono ?_
                rintro e w13 ⟨rfl, hf13⟩
                refine hK _ _ ?_
                clear hK K
                have HF13 := Lib.hid (HF12.out.trans hf13)
                clear hf13
                repeat (first
                  | (apply wpO_pure rfl rfl; (focus (intro w'; go_simp; (try rfl); done)); try simp only [Act.put, List.setIfInBounds_toArray, List.set_cons_zero, List.set_cons_succ])
                  | (apply wpO_read rfl rfl; (focus (intro w' hf' hs'; (try simp only [World.size_drew, World.cell?_drew, World.size_alloc, World.size_setCell] at hs'); go_simp; (try rfl); done)); try simp only [Act.put, List.setIfInBounds_toArray, List.set_cons_zero, List.set_cons_succ])
                  | (apply wpO_skip (by decide) rfl rfl; try simp only [Act.put, List.setIfInBounds_toArray, List.set_cons_zero, List.set_cons_succ]))
                refine wpO_nil ?_
                go_wp2
                go_ret
                exact ⟨rfl, HF13.out⟩
      · have h1' : i < ss.length := by simp only [decide_eq_true_eq] at h1; omega
        have h2' : ¬ i < 120 := by simp only [decide_eq_false_iff_not] at h2; omega
        clear hgi
        go_wp2
        go_loopg [5] 60 (fun g v5 wr => CbRel w p0 p g v5 wr)
        case atStart => exact ⟨0, b, by omega, rfl, HB.out, HX.out.fr0 (by (repeat (first | exact Fr.refl _ _ | assumption | refine Fr.drew ?_ | refine Fr.drewL ?_ | refine Fr.alloc ?_ _))), HF.out.trans (by (repeat (first | exact Fr.refl _ _ | assumption | refine Fr.drew ?_ | refine Fr.drewL ?_ | refine Fr.alloc ?_ _)))⟩
        case round =>
          obtain ⟨j, b4, hgj, rfl, hb4, hX4, hF4⟩ := hrel
          have HB4 := Lib.hid hb4
          have HX4 := Lib.hid hX4
          have HF4 := Lib.hid hF4
          have HG4 := Lib.hid (rounds_good (by omega) j HGP.out)
          have hj0 : (0 : Int) ≤ (j : Int) := by omega
          clear hb4 hX4 hF4
          by_cases hj : j < 60
          · have hj1 : (j : Int) < 60 := by omega
            obtain ⟨Q, hQ⟩ : ∃ Q, Q = roundsS j p := ⟨_, rfl⟩
            rw [← hQ] at HX4 HG4
            have HQ := Lib.hid hQ
            clear hQ
            go_wp2
            go_loopg [6] 300 (fun g v6 wr => CcRel w p0 Q g v6 wr)
            case atStart => exact ⟨0, b4, by omega, rfl, HB4.out, HX4.out.fr0 (by (repeat (first | exact Fr.refl _ _ | assumption | refine Fr.drew ?_ | refine Fr.drewL ?_ | refine Fr.alloc ?_ _))), HF4.out.trans (by (repeat (first | exact Fr.refl _ _ | assumption | refine Fr.drew ?_ | refine Fr.drewL ?_ | refine Fr.alloc ?_ _)))⟩
            case round =>
              obtain ⟨k, b5, hgk, rfl, hb5, hX5, hF5⟩ := hrel
              have HB5 := Lib.hid hb5
              have HX5 := Lib.hid hX5
              have HF5 := Lib.hid hF5
              have HG5 := Lib.hid (drainN_good HG4.out (by omega) k)
              have hk0 : (0 : Int) ≤ (k : Int) := by omega
              have y2 := hX5.blk.cell 2
              have yl := hX5.blk.lt
              simp only [List.getElem?_cons_zero, List.getElem?_cons_succ] at y2
              rw [hb5] at y2 yl
              clear hb5 hX5 hF5
              by_cases hk : k < 300
              · have hk1 : (k : Int) < 300 := by omega
                obtain ⟨q, hq⟩ : ∃ q, q = drainN k Q := ⟨_, rfl⟩
                rw [← hq] at HX5 HG5
                have HQQ := Lib.hid hq
                clear hq
                go_wp2_with (go_at_call 19; apply stopHere)
                unfold StopHere
                refine (len_any b5.np b5.nm q.n [] _ HX5.out.net).mono ?_
                rintro e w6 ⟨rfl, hf6⟩
                have HX6 := Lib.hid (HX5.out.fr0 hf6)
                have HF6 := Lib.hid (HF5.out.trans hf6)
                clear hf6 y2 yl
                by_cases hn : 0 < q.n.length
                · have hn1 : (0 : Int) < (q.n.length : Int) := by omega
                  go_wp2_with (go_at_call 20; apply stopHere)
                  unfold StopHere
                  have hst := come_any _ b5 q _ HX6.out HG5.out.i HG5.out.b (by omega) (by omega) 0 hn
                  rw [HB5.out] at hst
                  refine hst.mono ?_
                  clear hst
                  rintro e w7 ⟨b7, ⟨v7, rfl⟩, hb7, hX7, hF7⟩
                  have HX7 := Lib.hid hX7
                  have HF7 := Lib.hid (HF6.out.step hF7 fun k hk => .inr (HX6.out.low k hk))
                  have HB7 : Hid (b7.p0 = p0) := Lib.hid hb7
                  have HD7 := Lib.hid (show drainN (k + 1) Q = comeS q 0 by rw [drainN_succ, ← HQQ.out]; unfold drain1; rw [if_pos hn])
                  clear hX7 hF7 hb7
                  go_wp2
                  go_roundg (300 - (k + 1))
                  case measure => omega
                  case rel => exact ⟨k + 1, b7, by omega, by go_num, HB7.out, by rw [HD7.out]; exact HX7.out.fr0 (by (repeat (first | exact Fr.refl _ _ | assumption | refine Fr.drew ?_ | refine Fr.drewL ?_ | refine Fr.alloc ?_ _))), HF7.out.trans (by (repeat (first | exact Fr.refl _ _ | assumption | refine Fr.drew ?_ | refine Fr.drewL ?_ | refine Fr.alloc ?_ _)))⟩
                · have hn1 : ¬ (0 : Int) < (q.n.length : Int) := by omega
                  have HDE := Lib.hid (show drainN 300 Q = q by rw [HQQ.out]; exact drainN_end (by omega) (by rw [← HQQ.out]; exact List.eq_nil_of_length_eq_zero (by omega)))
                  have HX8 := HX6
                  have HF8 := HF6
                  clear hgk
                  go_wp2_with (go_at_call 21; apply stopHere)
                  unfold StopHere
                  have hst := ltick_any _ (b5) q _ HX8.out HG5.out.i HG5.out.b (by omega) (by omega)
                  rw [HB5.out] at hst
                  refine hst.mono ?_
                  clear hst
                  rintro e w9 ⟨⟨v9, rfl⟩, hX9, hF9⟩
                  have HX9 := Lib.hid hX9
                  have HF9 := Lib.hid (HF8.out.step hF9 fun k hk => .inr (HX8.out.low k hk))
                  have HR9 := Lib.hid (show roundsS (j + 1) p = tickS q by rw [roundsS_succ, ← HQ.out, roundS_def, HDE.out])
                  clear hX9 hF9
                  go_wp2
                  go_roundg (60 - (j + 1))
                  case measure => omega
                  case rel => exact ⟨j + 1, b5, by omega, by go_num, HB5.out, by rw [HR9.out]; exact HX9.out.fr0 (by (repeat (first | exact Fr.refl _ _ | assumption | refine Fr.drew ?_ | refine Fr.drewL ?_ | refine Fr.alloc ?_ _))), HF9.out.trans (by (repeat (first | exact Fr.refl _ _ | assumption | refine Fr.drew ?_ | refine Fr.drewL ?_ | refine Fr.alloc ?_ _)))⟩
              · have hk1 : ¬ (k : Int) < 300 := by omega
                obtain rfl : k = 300 := by omega
                obtain ⟨q, hq⟩ : ∃ q, q = drainN 300 Q := ⟨_, rfl⟩
                rw [← hq] at HX5 HG5
                have HDE := Lib.hid hq.symm
                have HX8 := HX5
                have HF8 := HF5
                clear hq hgk y2 yl
                go_wp2_with (go_at_call 21; apply stopHere)
                unfold StopHere
                have hst := ltick_any _ (b5) q _ HX8.out HG5.out.i HG5.out.b (by omega) (by omega)
                rw [HB5.out] at hst
                refine hst.mono ?_
                clear hst
                rintro e w9 ⟨⟨v9, rfl⟩, hX9, hF9⟩
                have HX9 := Lib.hid hX9
                have HF9 := Lib.hid (HF8.out.step hF9 fun k hk => .inr (HX8.out.low k hk))
                have HR9 := Lib.hid (show roundsS (j + 1) p = tickS q by rw [roundsS_succ, ← HQ.out, roundS_def, HDE.out])
                clear hX9 hF9
                go_wp2
                go_roundg (60 - (j + 1))
                case measure => omega
                case rel => exact ⟨j + 1, b5, by omega, by go_num, HB5.out, by rw [HR9.out]; exact HX9.out.fr0 (by (repeat (first | exact Fr.refl _ _ | assumption | refine Fr.drew ?_ | refine Fr.drewL ?_ | refine Fr.alloc ?_ _))), HF9.out.trans (by (repeat (first | exact Fr.refl _ _ | assumption | refine Fr.drew ?_ | refine Fr.drewL ?_ | refine Fr.alloc ?_ _)))⟩
          · have hj1 : ¬ (j : Int) < 60 := by omega
            obtain rfl : j = 60 := by omega
            have HA := Lib.hid (calm HGP.out (by omega) (by omega))
            obtain ⟨z, hz⟩ : ∃ z, z = roundsS 60 p := ⟨_, rfl⟩
            rw [← hz] at HX4 HG4 HA
            have HAS := Lib.hid (calm_asks HG4.out.i HG4.out.c HA.out)
            clear hz hgj
            go_wp2
            go_loopg [7] z.seen.length (fun g v7 wr' => InRel w.heap.size b4 z wr g v7 wr')
            case atStart => exact ⟨0, by omega, rfl, HX4.out.fr0 (by (repeat (first | exact Fr.refl _ _ | assumption | refine Fr.drew ?_ | refine Fr.drewL ?_ | refine Fr.alloc ?_ _))), by (repeat (first | exact Fr.refl _ _ | assumption | refine Fr.drew ?_ | refine Fr.drewL ?_ | refine Fr.alloc ?_ _))⟩
            case round =>
              obtain ⟨k, hgk, rfl, hX7, hF7⟩ := hrel
              have hk0 : (0 : Int) ≤ (k : Int) := by omega
              obtain ⟨As, cs, hvs, _⟩ := own_shape hX7.seen
              have y6 := hX7.blk.cell 6
              have yl := hX7.blk.lt
              simp only [List.getElem?_cons_zero, List.getElem?_cons_succ] at y6
              rw [hvs] at y6
              rw [HB4.out] at y6 yl
              have hsl : (z.seen.length : Int) ≤ 9223372036854775807 := by rw [HG4.out.i.h.seenL]; have := HG4.out.b.hl; omega
              have hsl0 : (0 : Int) ≤ (z.seen.length : Int) := by omega
              by_cases hk : k < z.seen.length
              · have hk1 : (k : Int) < (z.seen.length : Int) := by omega
                obtain ⟨x, hx⟩ : ∃ x, z.seen[k]? = some x := ⟨_, List.getElem?_eq_getElem hk⟩
                obtain ⟨gs, curs, hAs, hBs, hcs⟩ := row_cell (A := As) (c := cs) (n := z.seen.length) (by have h1 := hX7.seen; rw [hvs] at h1; exact h1) hx rfl
                subst hAs
                have s1 := hBs.cell k
                have s2 := hBs.lt
                rw [hcs, HAS.out.1 k x hx] at s1
                have HX7 := Lib.hid hX7
                have HF7 := Lib.hid hF7
                clear hX7 hF7 hvs hBs hcs hx
                go_wp2
                go_roundg (z.seen.length - (k + 1))
                case measure => omega
                case rel => exact ⟨k + 1, by omega, by go_num, HX7.out.fr0 (by (repeat (first | exact Fr.refl _ _ | assumption | refine Fr.drew ?_ | refine Fr.drewL ?_ | refine Fr.alloc ?_ _))), HF7.out.trans (by (repeat (first | exact Fr.refl _ _ | assumption | refine Fr.drew ?_ | refine Fr.drewL ?_ | refine Fr.alloc ?_ _)))⟩
              · obtain rfl : k = z.seen.length := by omega
                have HX7 := Lib.hid hX7
                have HF7 := Lib.hid (HF4.out.trans hF7)
                have hnn : ¬ ((z.seen.length : Int) < (z.seen.length : Int)) := by omega
                clear hX7 hF7 hvs hgk hk yl
                have y0 := HX7.out.blk.cell 0
                have y1 := HX7.out.blk.cell 1
                have y4 := HX7.out.blk.cell 4
                have y7 := HX7.out.blk.cell 7
                have yl := HX7.out.blk.lt
                simp only [List.getElem?_cons_zero, List.getElem?_cons_succ] at y0 y1 y4 y7
                rw [HB4.out] at y0 y1 y4 y7 yl
                rw [HAS.out.2.1] at y7
                have hbe : ((z.a.begun : Int) == z.run) = true := by simpa using HAS.out.2.2.2
                have HOP := Lib.hid HAS.out.2.2.1
                go_wp2
                refine wp_region_o [(0, 0), (1, 0), (2, 0), (3, 1), (4, 0), (5, 0), (6, 0), (7, 0), (8, 0), (9, 1), (10, 2), (11, 0), (12, 0), (13, 0), (14, 0), (15, 0), (16, 0), (19, 0), (20, 0), (21, 0), (17, 1), (22, 1), (18, 2), (23, 0), (24, 0), (25, 0), (26, 3), (27, 0), (28, 0)] (by kernel_rfl) (by kernel_rfl) ?_
                repeat (first
                  | (apply wpO_pure rfl rfl; (focus (intro w'; go_simp; (try rfl); done)); try simp only [Act.put, List.setIfInBounds_toArray, List.set_cons_zero, List.set_cons_succ])
                  | (apply wpO_read rfl rfl; (focus (intro w' hf' hs'; (try simp only [World.size_drew, World.cell?_drew, World.size_alloc, World.size_setCell] at hs'); go_simp; (try rfl); done)); try simp only [Act.put, List.setIfInBounds_toArray, List.set_cons_zero, List.set_cons_succ])
                  | (apply wpO_skip (by decide) rfl rfl; try simp only [Act.put, List.setIfInBounds_toArray, List.set_cons_zero, List.set_cons_succ]))
                refine wpO_loudE rfl fun K hK => ?_
                go_simp
                refine (open_zero HOP.out (HX7.out.fr0 (by (repeat (first | exact Fr.refl _ _ | assumption | refine Fr.drew ?_ | refine Fr.drewL ?_ | refine Fr.alloc ?_ _)))).hub).mono ?_
                rintro e w11 ⟨rfl, hf11⟩
                refine hK _ _ ⟨hf11, ?_⟩
                clear hK K
                have HX11 := Lib.hid ((HX7.out.fr0 (by (repeat (first | exact Fr.refl _ _ | assumption | refine Fr.drew ?_ | refine Fr.drewL ?_ | refine Fr.alloc ?_ _)))).fr0 hf11)
                have HF11 := Lib.hid ((HF7.out.trans (by (repeat (first | exact Fr.refl _ _ | assumption | refine Fr.drew ?_ | refine Fr.drewL ?_ | refine Fr.alloc ?_ _)))).trans hf11)
                clear y0 y1 y4 y7 yl hf11
                have y1 := HX11.out.blk.cell 1
                have y4 := HX11.out.blk.cell 4
                have yl := HX11.out.blk.lt
                simp only [List.getElem?_cons_zero, List.getElem?_cons_succ] at y1 y4
                rw [HB4.out] at y1 y4 yl
                repeat (first
                  | (apply wpO_pure rfl rfl; (focus (intro w'; go_simp; (try rfl); done)); try simp only [Act.put, List.setIfInBounds_toArray, List.set_cons_zero, List.set_cons_succ])
                  | (apply wpO_read rfl rfl; (focus (intro w' hf' hs'; (try simp only [World.size_drew, World.cell?_drew, World.size_alloc, World.size_setCell] at hs'); go_simp; (try rfl); done)); try simp only [Act.put, List.setIfInBounds_toArray, List.set_cons_zero, List.set_cons_succ])
                  | (apply wpO_skip (by decide) rfl rfl; try simp only [Act.put, List.setIfInBounds_toArray, List.set_cons_zero, List.set_cons_succ]))
                refine wpO_loudE rfl fun K hK => ?_
                go_simp
                refine (begun_any b4.aq b4.au b4.abs z.a _ HX11.out.ag).mono ?_
                rintro e w12 ⟨rfl, hf12⟩
                refine hK _ _ ⟨hf12, ?_⟩
                clear hK K
                have HF12 := Lib.hid (HF11.out.trans hf12)
                clear hf12 y1 y4 yl
                repeat (first
                  | (apply wpO_pure rfl rfl; (focus (intro w'; go_simp; (try rfl); done)); try simp only [Act.put, List.setIfInBounds_toArray, List.set_cons_zero, List.set_cons_succ])
                  | (apply wpO_read rfl rfl; (focus (intro w' hf' hs'; (try simp only [World.size_drew, World.cell?_drew, World.size_alloc, World.size_setCell] at hs'); go_simp; (try rfl); done)); try simp only [Act.put, List.setIfInBounds_toArray, List.set_cons_zero, List.set_cons_succ])
                  | (apply wpO_skip (by decide) rfl rfl; try simp only [Act.put, List.setIfInBounds_toArray, List.set_cons_zero, List.set_cons_succ]))
                refine wpO_loud rfl fun K hK => ?_
                go_simp
                refine (agknown _).mono ?_
                rintro e w13 ⟨rfl, hf13⟩
                refine hK _ _ ?_
                clear hK K
                have HF13 := Lib.hid (HF12.out.trans hf13)
                clear hf13
                repeat (first
                  | (apply wpO_pure rfl rfl; (focus (intro w'; go_simp; (try rfl); done)); try simp only [Act.put, List.setIfInBounds_toArray, List.set_cons_zero, List.set_cons_succ])
                  | (apply wpO_read rfl rfl; (focus (intro w' hf' hs'; (try simp only [World.size_drew, World.cell?_drew, World.size_alloc, World.size_setCell] at hs'); go_simp; (try rfl); done)); try simp only [Act.put, List.setIfInBounds_toArray, List.set_cons_zero, List.set_cons_succ])
                  | (apply wpO_skip (by decide) rfl rfl; try simp only [Act.put, List.setIfInBounds_toArray, List.set_cons_zero, List.set_cons_succ]))
                refine wpO_nil ?_
                go_wp2
                go_ret
                exact ⟨rfl, HF13.out⟩
end Go.Proofs.Ytohnchkoldbpcaa

/- What an argument's reading tells of its cells. -/
namespace Go.Proofs.Ytohnchkoldbpcaa
open Go Go.RowKit Go.ChangeShapes Go.WideShapes Go.Deep

section
variable {H : Type} {enc : TypeId × Value → H} {P : Program} {w : World} {base : Nat} {spare : Nat → Bool} {held : Bool}
/-- these cells read as a value of type t -/
def Rd (enc : TypeId × Value → H) (P : Program) (w : World) (base : Nat) (spare : Nat → Bool) (held : Bool) (t : TypeId) (cs : List Value) : Prop :=
  ∃ fuel x, DataW.trod enc P w base spare held fuel t cs = some x
theorem Rd.int {t : TypeId} {k : IntKind} {cs : List Value} (h : Rd enc P w base spare held t cs) (ht : P.underlying t = some (.int k)) : ∃ n, cs = [.int k n] ∧ (Lit.int k n).wf = true := by
  obtain ⟨f, x, h⟩ := h
  obtain ⟨n, h1, _, h2⟩ := DataW.trod_int ht h
  exact ⟨n, h1, h2⟩
theorem Rd.bool {t : TypeId} {cs : List Value} (h : Rd enc P w base spare held t cs) (ht : P.underlying t = some .bool) : ∃ b, cs = [.bool b] := by
  obtain ⟨f, x, h⟩ := h
  obtain ⟨n, h1, _⟩ := DataW.trod_bool ht h
  exact ⟨n, h1⟩
theorem Rd.string {t : TypeId} {cs : List Value} (h : Rd enc P w base spare held t cs) (ht : P.underlying t = some .string) : ∃ s : ByteArray, cs = [.string s] ∧ s.size ≤ maxLen := by
  obtain ⟨f, x, h⟩ := h
  obtain ⟨n, h1, _, h2⟩ := DataW.trod_string ht h
  exact ⟨n, h1, h2⟩
theorem Rd.struct {t : TypeId} {fs : Array Field} {cs : List Value} (h : Rd enc P w base spare held t cs) (ht : P.underlying t = some (.struct fs)) :
    cs.length = P.cellsOf t ∧ ∀ (i : Nat) (f : Field), fs[i]? = some f → Rd enc P w base spare held f.type ((cs.drop f.offset).take (P.cellsOf f.type)) := by
  obtain ⟨fuel, x, h⟩ := h
  obtain ⟨xs, n, _, _, h1, h2, h3⟩ := DataW.trod_struct ht h
  refine ⟨h1, fun i f hf => ?_⟩
  have h4 := h3 i f hf
  have hi := (Array.getElem?_eq_some_iff.1 hf).1
  rw [List.getElem?_eq_getElem (by omega)] at h4
  exact ⟨n, _, h4⟩
theorem list_of {α : Type} {p : Nat → α → Prop} : ∀ (n : Nat), (∀ i, i < n → ∃ x, p i x) → ∃ xs : List α, xs.length = n ∧ ∀ i x, xs[i]? = some x → p i x
  | 0, _ => ⟨[], rfl, fun i x h => by simp at h⟩
  | n + 1, h => by
    obtain ⟨xs, hl, hx⟩ := list_of n fun i hi => h i (by omega)
    obtain ⟨y, hy⟩ := h n (by omega)
    refine ⟨xs ++ [y], by simp [hl], fun i x hi => ?_⟩
    rcases Nat.lt_or_ge i xs.length with h1 | h1
    · rw [List.getElem?_append_left h1] at hi
      exact hx i x hi
    · rw [List.getElem?_append_right h1] at hi
      have : i - xs.length = 0 := by
        have := (List.getElem?_eq_some_iff.1 hi).1
        simp at this
        omega
      rw [this] at hi
      simp at hi
      subst hi
      have : i = n := by omega
      rw [this]
      exact hy
theorem flat_at {α : Type} (f : α → List Value) (sz : Nat) (hf : ∀ x, (f x).length = sz) {l : List α} {k : Nat} {x : α} (hx : l[k]? = some x) (j : Nat) (hj : j < sz) : (l.flatMap f)[k * sz + j]? = (f x)[j]? := by
  induction l generalizing k with
  | nil => simp at hx
  | cons m l ih =>
    cases k with
    | zero =>
      simp only [List.getElem?_cons_zero, Option.some.injEq] at hx
      subst hx
      simp only [List.flatMap_cons, Nat.zero_mul, Nat.zero_add]
      rw [List.getElem?_append_left (by rw [hf]; exact hj)]
    | succ k =>
      simp only [List.getElem?_cons_succ] at hx
      have e : (k + 1) * sz + j = (k * sz + j) + sz := by rw [Nat.add_mul]; omega
      rw [e]
      simp only [List.flatMap_cons]
      rw [List.getElem?_append_right (by rw [hf]; omega), hf]
      simpa using ih hx
theorem flat_len {α : Type} (f : α → List Value) (sz : Nat) (hf : ∀ x, (f x).length = sz) (l : List α) : (l.flatMap f).length = l.length * sz := by
  induction l with
  | nil => simp
  | cons m l ih => simp only [List.flatMap_cons, List.length_append, ih, hf, List.length_cons, Nat.add_mul]; omega
/-- a slice whose elements read as something known -/
theorem Rd.slice {α : Type} (f : α → List Value) {p : α → Prop} {t e : TypeId} {cs : List Value} (sz : Nat) (hsz : 0 < sz) (h : Rd enc P w base spare held t cs) (ht : P.underlying t = some (.slice e)) (hc : P.cellsOf e = sz) (hf : ∀ x, (f x).length = sz)
    (he : ∀ cs', Rd enc P w base spare held e cs' → ∃ x, cs' = f x ∧ p x) :
    ∃ (A : Option Addr) (n c : Nat) (xs : List α) (e' : TypeId), cs = [.slice A n c] ∧ (A = none → n = 0 ∧ c = 0) ∧ n ≤ c ∧ c ≤ maxLen ∧ xs.length = n ∧ Sl w e' sz A n (xs.flatMap f) ∧ ∀ x ∈ xs, p x := by
  obtain ⟨fuel, x, h⟩ := h
  rcases open_slice ht h with ⟨rfl, _⟩ | ⟨a, len, cap, m, n, D, Pl, rfl, _, hl, hm, hmm, _, hi⟩
  · exact ⟨none, 0, 0, [], 0, rfl, fun _ => ⟨rfl, rfl⟩, Nat.le_refl _, by simp [maxLen], rfl, Sl.nil _ _ _ _, by simp⟩
  · have hlm : len ≤ m := by rw [hmm]; split <;> omega
    have h1 : ∀ i, i < len → ∃ x, p x ∧ ∀ j, j < sz → w.cell? (a.add (i * sz + j)) = (f x)[j]? := fun i hil => by
      obtain ⟨cs', hc', ht'⟩ := hi i (by omega)
      rw [hc] at hc'
      obtain ⟨x, rfl, hp⟩ := he cs' ⟨n, _, ht'⟩
      obtain ⟨_, _, hcell⟩ := World.cells?_some hc'
      refine ⟨x, hp, fun j hj => ?_⟩
      rw [← hcell j hj, Go.Deep.add_add]
    obtain ⟨xs, hxl, hxs⟩ := list_of len h1
    have hp : ∀ x ∈ xs, p x := fun x hx => by
      obtain ⟨i, hi'⟩ := List.getElem?_of_mem hx
      exact (hxs i x hi').1
    rcases Nat.eq_zero_or_pos len with h0 | h0
    · subst h0
      have : xs = [] := List.eq_nil_of_length_eq_zero hxl
      subst this
      exact ⟨some a, 0, cap, [], 0, rfl, by simp, hl, hm, rfl, Sl.nil _ _ _ _, by simp⟩
    · have hx0 : xs[0]? = some xs[0] := List.getElem?_eq_getElem (by omega)
      have hfl := hf xs[0]
      have hc0 : w.cell? (a.add 0) = (f xs[0])[0]? := by simpa using (hxs 0 _ hx0).2 0 hsz
      have ha0 : a.add 0 = a := by simp [Addr.add]
      rw [ha0, List.getElem?_eq_getElem (by omega)] at hc0
      obtain ⟨b, o, sp⟩ := a
      have hcells : ∃ cur e' fr, w.heap[b]? = some (Obj.cells cur e' fr) ∧ sp = none := by
        unfold World.cell? at hc0
        split at hc0
        · rename_i cur e' fr hh
          refine ⟨cur, e', fr, hh, ?_⟩
          cases sp with
          | none => rfl
          | some q => simp at hc0
        · cases hc0
      obtain ⟨cur, e', fr, hh, rfl⟩ := hcells
      refine ⟨some ⟨b, o, none⟩, len, cap, xs, e', rfl, by simp, hl, hm, hxl, ⟨by rw [flat_len f sz hf, hxl], fun _ => ⟨b, o, cur, fr, rfl, hh, fun j u hu => ?_⟩⟩, hp⟩
      have hjl := (List.getElem?_eq_some_iff.1 hu).1
      rw [flat_len f sz hf] at hjl
      have hq : j / sz < xs.length := Nat.div_lt_of_lt_mul (by rw [Nat.mul_comm]; exact hjl)
      have hxq : xs[j / sz]? = some xs[j / sz] := List.getElem?_eq_getElem hq
      have hj : (j / sz) * sz + j % sz = j := by rw [Nat.mul_comm]; exact Nat.div_add_mod j sz
      have h2 := (hxs _ _ hxq).2 (j % sz) (Nat.mod_lt _ hsz)
      rw [hj] at h2
      rw [← flat_at f sz hf hxq (j % sz) (Nat.mod_lt _ hsz), hj, hu, add_off, cell_of_row w b (o + j) cur e' fr hh] at h2
      exact h2
end
end Go.Proofs.Ytohnchkoldbpcaa

/- messages that come in. -/
namespace Go.Proofs.Ytohnchkoldbpcaa
open Go Go.RowKit Go.Proofs Go.ChangeShapes Go.WideShapes Go.Deep

theorem refMsg_und : Try.prog.underlying 23 = some (.struct (Try.prog.fieldsOf 23)) := by kernel_rfl
theorem refMsg_fields : (Try.prog.fieldsOf 23).toList.map (fun f => (f.type, f.offset)) = [(3, 0), (3, 1), (3, 2), (2, 3), (2, 4), (2, 5), (2, 6), (9, 7)] := by kernel_rfl
theorem i3_und : Try.prog.underlying 3 = some (.int .i64) := by kernel_rfl
theorem i2_und : Try.prog.underlying 2 = some (.int .i64) := by kernel_rfl
theorem str_und : Try.prog.underlying 9 = some .string := by kernel_rfl
section
variable {H : Type} {enc : TypeId × Value → H} {w : World} {base : Nat} {spare : Nat → Bool} {held : Bool}
set_option maxRecDepth 100000 in
theorem rd_msg {cs : List Value} (h : Rd enc Try.prog w base spare held 23 cs) : ∃ x : Msg, cs = x.vals := by
  have hfs := refMsg_fields
  obtain ⟨hlen, hf⟩ := h.struct refMsg_und
  generalize Try.prog.fieldsOf 23 = fs at hfs hf
  have hc : Try.prog.cellsOf 23 = 8 := by kernel_rfl
  have c3 : Try.prog.cellsOf 3 = 1 := by kernel_rfl
  have c2 : Try.prog.cellsOf 2 = 1 := by kernel_rfl
  have c9 : Try.prog.cellsOf 9 = 1 := by kernel_rfl
  rw [hc] at hlen
  match cs, hlen with
  | [a0, a1, a2, a3, a4, a5, a6, a7], _ =>
    have key : ∀ (i : Nat) (ty o : Nat), (fs.toList.map (fun f => (f.type, f.offset)))[i]? = some (ty, o) → Rd enc Try.prog w base spare held ty (([a0, a1, a2, a3, a4, a5, a6, a7].drop o).take (Try.prog.cellsOf ty)) := by
      intro i ty o hi
      rw [List.getElem?_map] at hi
      cases hfi : fs.toList[i]? with
      | none => rw [hfi] at hi; cases hi
      | some f =>
        rw [hfi] at hi
        simp only [Option.map_some, Option.some.injEq, Prod.mk.injEq] at hi
        obtain ⟨rfl, rfl⟩ := hi
        exact hf i f (by simpa using hfi)
    rw [hfs] at key
    have k0 := key 0 3 0 rfl
    have k1 := key 1 3 1 rfl
    have k2 := key 2 3 2 rfl
    have k3 := key 3 2 3 rfl
    have k4 := key 4 2 4 rfl
    have k5 := key 5 2 5 rfl
    have k6 := key 6 2 6 rfl
    have k7 := key 7 9 7 rfl
    simp only [c2, c3, c9, List.drop_succ_cons, List.drop_zero, List.take_succ_cons, List.take_zero] at k0 k1 k2 k3 k4 k5 k6 k7
    obtain ⟨n0, e0, _⟩ := k0.int i3_und
    obtain ⟨n1, e1, _⟩ := k1.int i3_und
    obtain ⟨n2, e2, _⟩ := k2.int i3_und
    obtain ⟨n3, e3, _⟩ := k3.int i2_und
    obtain ⟨n4, e4, _⟩ := k4.int i2_und
    obtain ⟨n5, e5, _⟩ := k5.int i2_und
    obtain ⟨n6, e6, _⟩ := k6.int i2_und
    obtain ⟨s, e7, _⟩ := k7.string str_und
    simp only [List.cons.injEq, and_true] at e0 e1 e2 e3 e4 e5 e6 e7
    subst e0 e1 e2 e3 e4 e5 e6 e7
    exact ⟨⟨n0, n1, n2, n3, n4, n5, n6, s⟩, rfl⟩
end
end Go.Proofs.Ytohnchkoldbpcaa
namespace Go.Proofs.Ytohnchkoldbpcaa
open Go Go.RowKit Go.Proofs Go.ChangeShapes Go.WideShapes Go.Deep
theorem flat_one {α : Type} (f : α → Value) (l : List α) : l.flatMap (fun y => [f y]) = l.map f := by
  induction l with
  | nil => rfl
  | cons a l ih => simp only [List.flatMap_cons, List.map_cons, ih, List.cons_append, List.nil_append]
theorem wf_i64 {n : Int} (h : (Lit.int .i64 n).wf = true) : -9223372036854775808 ≤ n ∧ n ≤ 9223372036854775807 := by
  simp only [Lit.wf, IntKind.min, IntKind.max, IntKind.signed, IntKind.bits] at h
  simp at h
  omega
section
variable {H : Type} {enc : TypeId × Value → H} {w : World} {base : Nat} {spare : Nat → Bool} {held : Bool}
theorem rd_ints {v : Value} {d : DataW H} {p : List MemPlace} (h : DataW.Trod enc Try.prog w base spare held 52 v d p) (hv : ∃ a l c, v = .slice a l c) :
    ∃ (A : Option Addr) (c : Nat) (xs : List Int) (e : TypeId), v = .slice A xs.length c ∧ xs.length ≤ maxLen ∧ Sl w e 1 A xs.length (xs.map (Value.int .i64)) ∧ ∀ y ∈ xs, -9223372036854775808 ≤ y ∧ y ≤ 9223372036854775807 := by
  obtain ⟨a, l, c, rfl⟩ := hv
  obtain ⟨fuel, hf⟩ := h
  obtain ⟨A, n, c', xs, e', h1, _, h3, h4, rfl, h6, h7⟩ := Rd.slice (p := fun y => -9223372036854775808 ≤ y ∧ y ≤ 9223372036854775807) (fun y : Int => [Value.int .i64 y]) 1 (by omega) ⟨fuel, _, hf⟩ Try.underlying52 (by kernel_rfl) (fun _ => rfl)
    (fun cs' hr => by obtain ⟨x, hx, hw⟩ := hr.int i3_und; exact ⟨x, hx, wf_i64 hw⟩)
  simp only [Value.cells, List.cons.injEq, and_true] at h1
  rw [flat_one] at h6
  exact ⟨A, c', xs, e', h1, by omega, h6, h7⟩
end
end Go.Proofs.Ytohnchkoldbpcaa

/- steps that come in. -/
namespace Go.Proofs.Ytohnchkoldbpcaa
open Go Go.RowKit Go.Proofs Go.ChangeShapes Go.WideShapes Go.Deep

theorem step_und : Try.prog.underlying 49 = some (.struct (Try.prog.fieldsOf 49)) := by kernel_rfl
theorem step_fields : (Try.prog.fieldsOf 49).toList.map (fun f => (f.type, f.offset)) = [(3, 0), (3, 1)] := by kernel_rfl
section
variable {H : Type} {enc : TypeId × Value → H} {w : World} {base : Nat} {spare : Nat → Bool} {held : Bool}
set_option maxRecDepth 100000 in
theorem rd_step {cs : List Value} (h : Rd enc Try.prog w base spare held 49 cs) : ∃ x : AStep, cs = x.vals ∧ x.Ok := by
  have hfs := step_fields
  obtain ⟨hlen, hf⟩ := h.struct step_und
  generalize Try.prog.fieldsOf 49 = fs at hfs hf
  have hc : Try.prog.cellsOf 49 = 2 := by kernel_rfl
  have c3 : Try.prog.cellsOf 3 = 1 := by kernel_rfl
  rw [hc] at hlen
  match cs, hlen with
  | [a0, a1], _ =>
    have key : ∀ (i : Nat) (ty o : Nat), (fs.toList.map (fun f => (f.type, f.offset)))[i]? = some (ty, o) → Rd enc Try.prog w base spare held ty (([a0, a1].drop o).take (Try.prog.cellsOf ty)) := by
      intro i ty o hi
      rw [List.getElem?_map] at hi
      cases hfi : fs.toList[i]? with
      | none => rw [hfi] at hi; cases hi
      | some f =>
        rw [hfi] at hi
        simp only [Option.map_some, Option.some.injEq, Prod.mk.injEq] at hi
        obtain ⟨rfl, rfl⟩ := hi
        exact hf i f (by simpa using hfi)
    rw [hfs] at key
    have k0 := key 0 3 0 rfl
    have k1 := key 1 3 1 rfl
    simp only [c3, List.drop_succ_cons, List.drop_zero, List.take_succ_cons, List.take_zero] at k0 k1
    obtain ⟨n0, e0, _⟩ := k0.int i3_und
    obtain ⟨n1, e1, w1⟩ := k1.int i3_und
    simp only [List.cons.injEq, and_true] at e0 e1
    subst e0 e1
    exact ⟨⟨n0, n1⟩, rfl, wf_i64 w1⟩
theorem rd_steps {v : Value} {d : DataW H} {p : List MemPlace} (h : DataW.Trod enc Try.prog w base spare held 44 v d p) (hv : ∃ a l c, v = .slice a l c) :
    ∃ (A : Option Addr) (c : Nat) (xs : List AStep) (e : TypeId), v = .slice A xs.length c ∧ xs.length ≤ maxLen ∧ Sl w e 2 A xs.length (xs.flatMap AStep.vals) ∧ ∀ x ∈ xs, x.Ok := by
  obtain ⟨a, l, c, rfl⟩ := hv
  obtain ⟨fuel, hf⟩ := h
  obtain ⟨A, n, c', xs, e', h1, _, h3, h4, rfl, h6, h7⟩ := Rd.slice (p := fun x : AStep => x.Ok) AStep.vals 2 (by omega) ⟨fuel, _, hf⟩ Try.underlying44 (by kernel_rfl) (fun _ => rfl) (fun cs' hr => rd_step hr)
  simp only [Value.cells, List.cons.injEq, and_true] at h1
  exact ⟨A, c', xs, e', h1, by omega, h6, h7⟩
end
end Go.Proofs.Ytohnchkoldbpcaa
