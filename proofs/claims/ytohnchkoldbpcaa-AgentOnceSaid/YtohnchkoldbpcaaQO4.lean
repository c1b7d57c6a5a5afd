import Derived.Test.YtohnchkoldbpcaaQO3
import Derived.ProofKit
import Derived.OpenShut
import Derived.ShutString
import Derived.ChangeOld
import Derived.SizedLaws
import Derived.Deep.Slices
import Derived.Deep.Fields
set_option linter.unusedVariables false
set_option linter.unusedSimpArgs false
/- agent, the law: step, all but Ask and the clock. -/
namespace Go.Proofs.Ytohnchkoldbpcaa
open Go Go.RowKit Go.Proofs

def PlB.F (b : PlB) (k : Nat) : Prop := b.H k ∨ b.A k ∨ b.N k ∨ b.P k
theorem come_any (B : Nat) (b : PlB) (p : PlayS) (w : World) (X : PlAt B w b p) (I : Inv p) {K : Int} {R : Nat} (M : NumB K R p) (hKK : K ≤ 1000000) (hR : R ≤ 1000000) (k : Nat) (hk : k < p.n.length) :
    Calls Try.prog 20 #[.pointer (some ⟨b.p0, 0, none⟩), .int .i64 (k : Int)] w fun e w' => ∃ b', (∃ v, e = .returned v) ∧ b'.p0 = b.p0 ∧ PlAt B w' b' (comeS p k) ∧ Fr b.F w w' := by
  have hm : p.n[k]? = some p.n[k] := List.getElem?_eq_getElem hk
  by_cases ht : p.n[k].to_ = 1
  · exact comeA_any B b p w X I M hKK hR k _ hm ht
  · exact comeH_any B b p w X I M hKK hR k _ hm ht
/-- what a step leaves -/
def StepOut (B : Nat) (w w' : World) (b : PlB) (p' : PlayS) (e : Ending) : Prop := ∃ b', (∃ v, e = .returned v) ∧ b'.p0 = b.p0 ∧ PlAt B w' b' p' ∧ Fr b.F w w'
abbrev AStep.val (s : AStep) : Value := .agg #[.int .i64 s.kind, .int .i64 s.n]
abbrev AStep.vals (s : AStep) : List Value := [.int .i64 s.kind, .int .i64 s.n]
def AStep.Ok (s : AStep) : Prop := -9223372036854775808 ≤ s.n ∧ s.n ≤ 9223372036854775807
theorem countI_nat (n : Int) {l : Nat} (hl : 0 < l) : ∃ k : Nat, countI n l = (k : Int) ∧ k < l ∧ (countI n l).toNat = k := by
  have h := countI_range n l (by omega)
  exact ⟨(countI n l).toNat, by omega, by omega, rfl⟩
theorem count_to {k n c : Int} (hc : countI k n = c) (w : World) (hk : -9223372036854775808 ≤ k) (hk' : k ≤ 9223372036854775807) (hn : 0 < n) (hn' : n ≤ 2147483648) :
    Calls Try.prog 34 #[.int .i64 k, .int .i64 n] w fun e w' => e = .returned (.int .i64 c) ∧ Fr No w w' := by
  subst hc
  exact count_any k n w hk hk' hn hn'
set_option maxRecDepth 100000 in
set_option maxHeartbeats 2000000 in
theorem lstep_come (B : Nat) (b : PlB) (p : PlayS) (w : World) (X : PlAt B w b p) (I : Inv p) {K : Int} {R : Nat} (M : NumB K R p) (hKK : K ≤ 1000000) (hR : R ≤ 1000000) (s : AStep) (ho : s.Ok) (hk : 2 ≤ s.kind ∧ s.kind ≤ 5) :
    Calls Try.prog 18 #[.pointer (some ⟨b.p0, 0, none⟩), s.val] w fun e w' => StepOut B w w' b (stepS p s) e := by
  have HX := Lib.hid (X.fr0 ((Fr.refl No w).alloc (Obj.cells s.vals.toArray 49)))
  have HI := Lib.hid I
  have HM := Lib.hid M
  have HO := Lib.hid ho
  have HSB := Lib.hid (Blk.new w 49 s.vals)
  have c2 := X.blk.cell 2
  have cl := X.blk.lt
  simp only [List.getElem?_cons_zero, List.getElem?_cons_succ] at c2
  have HST : Hid (stepS p s = if 0 < p.n.length then comeS p (countI s.n p.n.length).toNat else p) := Lib.hid (by
    unfold stepS
    rw [if_neg (by omega), if_pos hk])
  have k0 : (s.kind == 0) = false := by simp; omega
  have k1 : (s.kind == 1) = false := by simp; omega
  clear X I M ho
  obtain ⟨sk, sn⟩ := s
  rcases (by simp only at hk; omega : sk = 2 ∨ sk = 3 ∨ sk = 4 ∨ sk = 5) with rfl | rfl | rfl | rfl
  · skip
    by_cases hl : 0 < p.n.length
    · have hl1 : (0 : Int) < (p.n.length : Int) := by omega
      obtain ⟨k, hc, hkl, hct⟩ := countI_nat sn hl
      have HC := Lib.hid hc
      have HCT := Lib.hid hct
      have HL := Lib.hid hl
      clear hc hct
      go_enter Try.func18, Try.ntmps18
      go_wp2_with (go_at_call 19
                   refine (len_any b.np b.nm p.n [] _ HX.out.net).mono ?_
                   rintro e w2 ⟨rfl, hf2⟩
                   have HX2 := Lib.hid (HX.out.fr0 hf2)
                   have HS2 := Lib.hid (HSB.out.fr hf2 (fun h => h))
                   have HF2 : Hid (Fr No w w2) := Lib.hid (((Fr.refl No w).alloc _).trans hf2)
                   have z0 := HS2.out.cell 1
                   have zl := HS2.out.lt
                   have zz := HS2.out.frozens
                   have y2 := HX2.out.blk.cell 2
                   have yl := HX2.out.blk.lt
                   simp only [List.getElem?_cons_zero, List.getElem?_cons_succ] at z0 y2
                   clear hf2)
      refine wp_region_o [(0, 0), (1, 0), (3, 0), (4, 0), (5, 0), (2, 1), (6, 1), (7, 2), (8, 2), (9, 3)] (by kernel_rfl) (by kernel_rfl) ?_
      repeat (first
        | (apply wpO_pure rfl rfl; (focus (intro w'; go_simp; (try rfl); done)); try simp only [Act.put, List.setIfInBounds_toArray, List.set_cons_zero, List.set_cons_succ])
        | (apply wpO_read rfl rfl; (focus (intro w' hf' hs'; (try simp only [World.size_drew, World.cell?_drew, World.size_alloc, World.size_setCell] at hs'); go_simp; (try rfl); done)); try simp only [Act.put, List.setIfInBounds_toArray, List.set_cons_zero, List.set_cons_succ])
        | (apply wpO_skip (by decide) rfl rfl; try simp only [Act.put, List.setIfInBounds_toArray, List.set_cons_zero, List.set_cons_succ]))
      refine wpO_loudE rfl fun K hK => ?_
      go_simp
      refine (len_any b.np b.nm p.n [] _ (HX2.out.fr0 (by (repeat (first | exact Fr.refl _ _ | assumption | refine Fr.drew ?_ | refine Fr.drewL ?_ | refine Fr.alloc ?_ _)))).net).mono ?_
      rintro e w3 ⟨rfl, hf3⟩
      refine hK _ _ ⟨hf3, ?_⟩
      clear hK K
      refine wpO_loudE rfl fun K hK => ?_
      go_simp
      refine (count_to HC.out _ HO.out.1 HO.out.2 (by omega) (by have := HM.out.net; omega)).mono ?_
      rintro e w4 ⟨rfl, hf4⟩
      refine hK _ _ ⟨hf4, ?_⟩
      clear hK K
      have HF4 := Lib.hid (HF2.out.trans (Fr.trans (by (repeat (first | exact Fr.refl _ _ | assumption | refine Fr.drew ?_ | refine Fr.drewL ?_ | refine Fr.alloc ?_ _))) (hf3.trans hf4)))
      refine wpO_loud rfl fun K hK => ?_
      go_simp
      refine (come_any B b p _ (((HX2.out.fr0 ((Fr.refl No w2).drew)).fr0 hf3).fr0 hf4) HI.out HM.out hKK hR k hkl).mono ?_
      rintro e w5 ⟨b', ⟨v5, rfl⟩, hb', hX5, hF5⟩
      refine hK _ _ ?_
      clear hK K
      refine wpO_nil ?_
      go_wp2
      refine bodyPost_end (v := .tuple #[]) (by simp [results, Try.results18, go_sem]) rfl ⟨b', ⟨_, rfl⟩, hb', ?_, (HF4.out.any _).trans hF5⟩
      rw [HST.out, if_pos HL.out, HCT.out]
      exact hX5
    · have hl1 : ¬ (0 : Int) < (p.n.length : Int) := by omega
      have HL := Lib.hid hl
      go_enter Try.func18, Try.ntmps18
      go_wp2_with (go_at_call 19
                   refine (len_any b.np b.nm p.n [] _ HX.out.net).mono ?_
                   rintro e w2 ⟨rfl, hf2⟩
                   have HX2 := Lib.hid (HX.out.fr0 hf2)
                   have HS2 := Lib.hid (HSB.out.fr hf2 (fun h => h))
                   have HF2 : Hid (Fr No w w2) := Lib.hid (((Fr.refl No w).alloc _).trans hf2)
                   have z0 := HS2.out.cell 1
                   have zl := HS2.out.lt
                   have zz := HS2.out.frozens
                   have y2 := HX2.out.blk.cell 2
                   have yl := HX2.out.blk.lt
                   simp only [List.getElem?_cons_zero, List.getElem?_cons_succ] at z0 y2
                   clear hf2)
      refine bodyPost_end (v := .tuple #[]) (by simp [results, Try.results18, go_sem]) rfl ⟨b, ⟨_, rfl⟩, rfl, ?_, HF2.out.any _⟩
      rw [HST.out, if_neg HL.out]
      exact HX2.out
  · skip
    by_cases hl : 0 < p.n.length
    · have hl1 : (0 : Int) < (p.n.length : Int) := by omega
      obtain ⟨k, hc, hkl, hct⟩ := countI_nat sn hl
      have HC := Lib.hid hc
      have HCT := Lib.hid hct
      have HL := Lib.hid hl
      clear hc hct
      go_enter Try.func18, Try.ntmps18
      go_wp2_with (go_at_call 19
                   refine (len_any b.np b.nm p.n [] _ HX.out.net).mono ?_
                   rintro e w2 ⟨rfl, hf2⟩
                   have HX2 := Lib.hid (HX.out.fr0 hf2)
                   have HS2 := Lib.hid (HSB.out.fr hf2 (fun h => h))
                   have HF2 : Hid (Fr No w w2) := Lib.hid (((Fr.refl No w).alloc _).trans hf2)
                   have z0 := HS2.out.cell 1
                   have zl := HS2.out.lt
                   have zz := HS2.out.frozens
                   have y2 := HX2.out.blk.cell 2
                   have yl := HX2.out.blk.lt
                   simp only [List.getElem?_cons_zero, List.getElem?_cons_succ] at z0 y2
                   clear hf2)
      refine wp_region_o [(0, 0), (1, 0), (3, 0), (4, 0), (5, 0), (2, 1), (6, 1), (7, 2), (8, 2), (9, 3)] (by kernel_rfl) (by kernel_rfl) ?_
      repeat (first
        | (apply wpO_pure rfl rfl; (focus (intro w'; go_simp; (try rfl); done)); try simp only [Act.put, List.setIfInBounds_toArray, List.set_cons_zero, List.set_cons_succ])
        | (apply wpO_read rfl rfl; (focus (intro w' hf' hs'; (try simp only [World.size_drew, World.cell?_drew, World.size_alloc, World.size_setCell] at hs'); go_simp; (try rfl); done)); try simp only [Act.put, List.setIfInBounds_toArray, List.set_cons_zero, List.set_cons_succ])
        | (apply wpO_skip (by decide) rfl rfl; try simp only [Act.put, List.setIfInBounds_toArray, List.set_cons_zero, List.set_cons_succ]))
      refine wpO_loudE rfl fun K hK => ?_
      go_simp
      refine (len_any b.np b.nm p.n [] _ (HX2.out.fr0 (by (repeat (first | exact Fr.refl _ _ | assumption | refine Fr.drew ?_ | refine Fr.drewL ?_ | refine Fr.alloc ?_ _)))).net).mono ?_
      rintro e w3 ⟨rfl, hf3⟩
      refine hK _ _ ⟨hf3, ?_⟩
      clear hK K
      refine wpO_loudE rfl fun K hK => ?_
      go_simp
      refine (count_to HC.out _ HO.out.1 HO.out.2 (by omega) (by have := HM.out.net; omega)).mono ?_
      rintro e w4 ⟨rfl, hf4⟩
      refine hK _ _ ⟨hf4, ?_⟩
      clear hK K
      have HF4 := Lib.hid (HF2.out.trans (Fr.trans (by (repeat (first | exact Fr.refl _ _ | assumption | refine Fr.drew ?_ | refine Fr.drewL ?_ | refine Fr.alloc ?_ _))) (hf3.trans hf4)))
      refine wpO_loud rfl fun K hK => ?_
      go_simp
      refine (come_any B b p _ (((HX2.out.fr0 ((Fr.refl No w2).drew)).fr0 hf3).fr0 hf4) HI.out HM.out hKK hR k hkl).mono ?_
      rintro e w5 ⟨b', ⟨v5, rfl⟩, hb', hX5, hF5⟩
      refine hK _ _ ?_
      clear hK K
      refine wpO_nil ?_
      go_wp2
      refine bodyPost_end (v := .tuple #[]) (by simp [results, Try.results18, go_sem]) rfl ⟨b', ⟨_, rfl⟩, hb', ?_, (HF4.out.any _).trans hF5⟩
      rw [HST.out, if_pos HL.out, HCT.out]
      exact hX5
    · have hl1 : ¬ (0 : Int) < (p.n.length : Int) := by omega
      have HL := Lib.hid hl
      go_enter Try.func18, Try.ntmps18
      go_wp2_with (go_at_call 19
                   refine (len_any b.np b.nm p.n [] _ HX.out.net).mono ?_
                   rintro e w2 ⟨rfl, hf2⟩
                   have HX2 := Lib.hid (HX.out.fr0 hf2)
                   have HS2 := Lib.hid (HSB.out.fr hf2 (fun h => h))
                   have HF2 : Hid (Fr No w w2) := Lib.hid (((Fr.refl No w).alloc _).trans hf2)
                   have z0 := HS2.out.cell 1
                   have zl := HS2.out.lt
                   have zz := HS2.out.frozens
                   have y2 := HX2.out.blk.cell 2
                   have yl := HX2.out.blk.lt
                   simp only [List.getElem?_cons_zero, List.getElem?_cons_succ] at z0 y2
                   clear hf2)
      refine bodyPost_end (v := .tuple #[]) (by simp [results, Try.results18, go_sem]) rfl ⟨b, ⟨_, rfl⟩, rfl, ?_, HF2.out.any _⟩
      rw [HST.out, if_neg HL.out]
      exact HX2.out
  · skip
    by_cases hl : 0 < p.n.length
    · have hl1 : (0 : Int) < (p.n.length : Int) := by omega
      obtain ⟨k, hc, hkl, hct⟩ := countI_nat sn hl
      have HC := Lib.hid hc
      have HCT := Lib.hid hct
      have HL := Lib.hid hl
      clear hc hct
      go_enter Try.func18, Try.ntmps18
      go_wp2_with (go_at_call 19
                   refine (len_any b.np b.nm p.n [] _ HX.out.net).mono ?_
                   rintro e w2 ⟨rfl, hf2⟩
                   have HX2 := Lib.hid (HX.out.fr0 hf2)
                   have HS2 := Lib.hid (HSB.out.fr hf2 (fun h => h))
                   have HF2 : Hid (Fr No w w2) := Lib.hid (((Fr.refl No w).alloc _).trans hf2)
                   have z0 := HS2.out.cell 1
                   have zl := HS2.out.lt
                   have zz := HS2.out.frozens
                   have y2 := HX2.out.blk.cell 2
                   have yl := HX2.out.blk.lt
                   simp only [List.getElem?_cons_zero, List.getElem?_cons_succ] at z0 y2
                   clear hf2)
      refine wp_region_o [(0, 0), (1, 0), (3, 0), (4, 0), (5, 0), (2, 1), (6, 1), (7, 2), (8, 2), (9, 3)] (by kernel_rfl) (by kernel_rfl) ?_
      repeat (first
        | (apply wpO_pure rfl rfl; (focus (intro w'; go_simp; (try rfl); done)); try simp only [Act.put, List.setIfInBounds_toArray, List.set_cons_zero, List.set_cons_succ])
        | (apply wpO_read rfl rfl; (focus (intro w' hf' hs'; (try simp only [World.size_drew, World.cell?_drew, World.size_alloc, World.size_setCell] at hs'); go_simp; (try rfl); done)); try simp only [Act.put, List.setIfInBounds_toArray, List.set_cons_zero, List.set_cons_succ])
        | (apply wpO_skip (by decide) rfl rfl; try simp only [Act.put, List.setIfInBounds_toArray, List.set_cons_zero, List.set_cons_succ]))
      refine wpO_loudE rfl fun K hK => ?_
      go_simp
      refine (len_any b.np b.nm p.n [] _ (HX2.out.fr0 (by (repeat (first | exact Fr.refl _ _ | assumption | refine Fr.drew ?_ | refine Fr.drewL ?_ | refine Fr.alloc ?_ _)))).net).mono ?_
      rintro e w3 ⟨rfl, hf3⟩
      refine hK _ _ ⟨hf3, ?_⟩
      clear hK K
      refine wpO_loudE rfl fun K hK => ?_
      go_simp
      refine (count_to HC.out _ HO.out.1 HO.out.2 (by omega) (by have := HM.out.net; omega)).mono ?_
      rintro e w4 ⟨rfl, hf4⟩
      refine hK _ _ ⟨hf4, ?_⟩
      clear hK K
      have HF4 := Lib.hid (HF2.out.trans (Fr.trans (by (repeat (first | exact Fr.refl _ _ | assumption | refine Fr.drew ?_ | refine Fr.drewL ?_ | refine Fr.alloc ?_ _))) (hf3.trans hf4)))
      refine wpO_loud rfl fun K hK => ?_
      go_simp
      refine (come_any B b p _ (((HX2.out.fr0 ((Fr.refl No w2).drew)).fr0 hf3).fr0 hf4) HI.out HM.out hKK hR k hkl).mono ?_
      rintro e w5 ⟨b', ⟨v5, rfl⟩, hb', hX5, hF5⟩
      refine hK _ _ ?_
      clear hK K
      refine wpO_nil ?_
      go_wp2
      refine bodyPost_end (v := .tuple #[]) (by simp [results, Try.results18, go_sem]) rfl ⟨b', ⟨_, rfl⟩, hb', ?_, (HF4.out.any _).trans hF5⟩
      rw [HST.out, if_pos HL.out, HCT.out]
      exact hX5
    · have hl1 : ¬ (0 : Int) < (p.n.length : Int) := by omega
      have HL := Lib.hid hl
      go_enter Try.func18, Try.ntmps18
      go_wp2_with (go_at_call 19
                   refine (len_any b.np b.nm p.n [] _ HX.out.net).mono ?_
                   rintro e w2 ⟨rfl, hf2⟩
                   have HX2 := Lib.hid (HX.out.fr0 hf2)
                   have HS2 := Lib.hid (HSB.out.fr hf2 (fun h => h))
                   have HF2 : Hid (Fr No w w2) := Lib.hid (((Fr.refl No w).alloc _).trans hf2)
                   have z0 := HS2.out.cell 1
                   have zl := HS2.out.lt
                   have zz := HS2.out.frozens
                   have y2 := HX2.out.blk.cell 2
                   have yl := HX2.out.blk.lt
                   simp only [List.getElem?_cons_zero, List.getElem?_cons_succ] at z0 y2
                   clear hf2)
      refine bodyPost_end (v := .tuple #[]) (by simp [results, Try.results18, go_sem]) rfl ⟨b, ⟨_, rfl⟩, rfl, ?_, HF2.out.any _⟩
      rw [HST.out, if_neg HL.out]
      exact HX2.out
  · skip
    by_cases hl : 0 < p.n.length
    · have hl1 : (0 : Int) < (p.n.length : Int) := by omega
      obtain ⟨k, hc, hkl, hct⟩ := countI_nat sn hl
      have HC := Lib.hid hc
      have HCT := Lib.hid hct
      have HL := Lib.hid hl
      clear hc hct
      go_enter Try.func18, Try.ntmps18
      go_wp2_with (go_at_call 19
                   refine (len_any b.np b.nm p.n [] _ HX.out.net).mono ?_
                   rintro e w2 ⟨rfl, hf2⟩
                   have HX2 := Lib.hid (HX.out.fr0 hf2)
                   have HS2 := Lib.hid (HSB.out.fr hf2 (fun h => h))
                   have HF2 : Hid (Fr No w w2) := Lib.hid (((Fr.refl No w).alloc _).trans hf2)
                   have z0 := HS2.out.cell 1
                   have zl := HS2.out.lt
                   have zz := HS2.out.frozens
                   have y2 := HX2.out.blk.cell 2
                   have yl := HX2.out.blk.lt
                   simp only [List.getElem?_cons_zero, List.getElem?_cons_succ] at z0 y2
                   clear hf2)
      refine wp_region_o [(0, 0), (1, 0), (3, 0), (4, 0), (5, 0), (2, 1), (6, 1), (7, 2), (8, 2), (9, 3)] (by kernel_rfl) (by kernel_rfl) ?_
      repeat (first
        | (apply wpO_pure rfl rfl; (focus (intro w'; go_simp; (try rfl); done)); try simp only [Act.put, List.setIfInBounds_toArray, List.set_cons_zero, List.set_cons_succ])
        | (apply wpO_read rfl rfl; (focus (intro w' hf' hs'; (try simp only [World.size_drew, World.cell?_drew, World.size_alloc, World.size_setCell] at hs'); go_simp; (try rfl); done)); try simp only [Act.put, List.setIfInBounds_toArray, List.set_cons_zero, List.set_cons_succ])
        | (apply wpO_skip (by decide) rfl rfl; try simp only [Act.put, List.setIfInBounds_toArray, List.set_cons_zero, List.set_cons_succ]))
      refine wpO_loudE rfl fun K hK => ?_
      go_simp
      refine (len_any b.np b.nm p.n [] _ (HX2.out.fr0 (by (repeat (first | exact Fr.refl _ _ | assumption | refine Fr.drew ?_ | refine Fr.drewL ?_ | refine Fr.alloc ?_ _)))).net).mono ?_
      rintro e w3 ⟨rfl, hf3⟩
      refine hK _ _ ⟨hf3, ?_⟩
      clear hK K
      refine wpO_loudE rfl fun K hK => ?_
      go_simp
      refine (count_to HC.out _ HO.out.1 HO.out.2 (by omega) (by have := HM.out.net; omega)).mono ?_
      rintro e w4 ⟨rfl, hf4⟩
      refine hK _ _ ⟨hf4, ?_⟩
      clear hK K
      have HF4 := Lib.hid (HF2.out.trans (Fr.trans (by (repeat (first | exact Fr.refl _ _ | assumption | refine Fr.drew ?_ | refine Fr.drewL ?_ | refine Fr.alloc ?_ _))) (hf3.trans hf4)))
      refine wpO_loud rfl fun K hK => ?_
      go_simp
      refine (come_any B b p _ (((HX2.out.fr0 ((Fr.refl No w2).drew)).fr0 hf3).fr0 hf4) HI.out HM.out hKK hR k hkl).mono ?_
      rintro e w5 ⟨b', ⟨v5, rfl⟩, hb', hX5, hF5⟩
      refine hK _ _ ?_
      clear hK K
      refine wpO_nil ?_
      go_wp2
      refine bodyPost_end (v := .tuple #[]) (by simp [results, Try.results18, go_sem]) rfl ⟨b', ⟨_, rfl⟩, hb', ?_, (HF4.out.any _).trans hF5⟩
      rw [HST.out, if_pos HL.out, HCT.out]
      exact hX5
    · have hl1 : ¬ (0 : Int) < (p.n.length : Int) := by omega
      have HL := Lib.hid hl
      go_enter Try.func18, Try.ntmps18
      go_wp2_with (go_at_call 19
                   refine (len_any b.np b.nm p.n [] _ HX.out.net).mono ?_
                   rintro e w2 ⟨rfl, hf2⟩
                   have HX2 := Lib.hid (HX.out.fr0 hf2)
                   have HS2 := Lib.hid (HSB.out.fr hf2 (fun h => h))
                   have HF2 : Hid (Fr No w w2) := Lib.hid (((Fr.refl No w).alloc _).trans hf2)
                   have z0 := HS2.out.cell 1
                   have zl := HS2.out.lt
                   have zz := HS2.out.frozens
                   have y2 := HX2.out.blk.cell 2
                   have yl := HX2.out.blk.lt
                   simp only [List.getElem?_cons_zero, List.getElem?_cons_succ] at z0 y2
                   clear hf2)
      refine bodyPost_end (v := .tuple #[]) (by simp [results, Try.results18, go_sem]) rfl ⟨b, ⟨_, rfl⟩, rfl, ?_, HF2.out.any _⟩
      rw [HST.out, if_neg HL.out]
      exact HX2.out
set_option maxRecDepth 100000 in
set_option maxHeartbeats 2000000 in
theorem lstep_lose (B : Nat) (b : PlB) (p : PlayS) (w : World) (X : PlAt B w b p) {K : Int} {R : Nat} (M : NumB K R p) (s : AStep) (ho : s.Ok) (hk : s.kind = 6) :
    Calls Try.prog 18 #[.pointer (some ⟨b.p0, 0, none⟩), s.val] w fun e w' => StepOut B w w' b (stepS p s) e := by
  have HX := Lib.hid (X.fr0 ((Fr.refl No w).alloc (Obj.cells s.vals.toArray 49)))
  have HM := Lib.hid M
  have HO := Lib.hid ho
  have HSB := Lib.hid (Blk.new w 49 s.vals)
  have c2 := X.blk.cell 2
  have cl := X.blk.lt
  simp only [List.getElem?_cons_zero, List.getElem?_cons_succ] at c2
  have HST : Hid (stepS p s = if 0 < p.n.length then { p with n := p.n.eraseIdx (countI s.n p.n.length).toNat } else p) := Lib.hid (by
    unfold stepS
    rw [if_neg (by omega), if_neg (by omega), if_pos hk])
  clear X M ho
  obtain ⟨sk, sn⟩ := s
  obtain rfl : sk = 6 := hk
  by_cases hl : 0 < p.n.length
  · have hl1 : (0 : Int) < (p.n.length : Int) := by omega
    obtain ⟨k, hc, hkl, hct⟩ := countI_nat sn hl
    have HC := Lib.hid hc
    have HCT := Lib.hid hct
    have HL := Lib.hid hl
    have HIN := Lib.hid (show inL (k : Int) p.n.length = true by unfold inL; simp; omega)
    clear hc hct
    go_enter Try.func18, Try.ntmps18
    go_wp2_with (go_at_call 19
                 refine (len_any b.np b.nm p.n [] _ HX.out.net).mono ?_
                 rintro e w2 ⟨rfl, hf2⟩
                 have HX2 := Lib.hid (HX.out.fr0 hf2)
                 have HS2 := Lib.hid (HSB.out.fr hf2 (fun h => h))
                 have HF2 : Hid (Fr No w w2) := Lib.hid (((Fr.refl No w).alloc _).trans hf2)
                 have z0 := HS2.out.cell 1
                 have zl := HS2.out.lt
                 have zz := HS2.out.frozens
                 have y2 := HX2.out.blk.cell 2
                 have yl := HX2.out.blk.lt
                 simp only [List.getElem?_cons_zero, List.getElem?_cons_succ] at z0 y2
                 clear hf2)
    refine wp_region_o [(0, 0), (1, 0), (2, 0), (4, 0), (6, 0), (7, 0), (8, 0), (3, 1), (5, 1), (9, 1), (10, 2), (11, 2), (12, 3)] (by kernel_rfl) (by kernel_rfl) ?_
    repeat (first
      | (apply wpO_pure rfl rfl; (focus (intro w'; go_simp; (try rfl); done)); try simp only [Act.put, List.setIfInBounds_toArray, List.set_cons_zero, List.set_cons_succ])
      | (apply wpO_read rfl rfl; (focus (intro w' hf' hs'; (try simp only [World.size_drew, World.cell?_drew, World.size_alloc, World.size_setCell] at hs'); go_simp; (try rfl); done)); try simp only [Act.put, List.setIfInBounds_toArray, List.set_cons_zero, List.set_cons_succ])
      | (apply wpO_skip (by decide) rfl rfl; try simp only [Act.put, List.setIfInBounds_toArray, List.set_cons_zero, List.set_cons_succ]))
    refine wpO_loudE rfl fun K hK => ?_
    go_simp
    refine (len_any b.np b.nm p.n [] _ (HX2.out.fr0 (by (repeat (first | exact Fr.refl _ _ | assumption | refine Fr.drew ?_ | refine Fr.drewL ?_ | refine Fr.alloc ?_ _)))).net).mono ?_
    rintro e w3 ⟨rfl, hf3⟩
    refine hK _ _ ⟨hf3, ?_⟩
    clear hK K
    refine wpO_loudE rfl fun K hK => ?_
    go_simp
    refine (count_to HC.out _ HO.out.1 HO.out.2 (by omega) (by have := HM.out.net; omega)).mono ?_
    rintro e w4 ⟨rfl, hf4⟩
    refine hK _ _ ⟨hf4, ?_⟩
    clear hK K
    have HF4 := Lib.hid (HF2.out.trans (Fr.trans (by (repeat (first | exact Fr.refl _ _ | assumption | refine Fr.drew ?_ | refine Fr.drewL ?_ | refine Fr.alloc ?_ _))) (hf3.trans hf4)))
    have HX4 := Lib.hid (((HX2.out.fr0 ((Fr.refl No w2).drew)).fr0 hf3).fr0 hf4)
    refine wpO_loud rfl fun K hK => ?_
    go_simp
    refine (lose_any b.np b.nm p.n [] (k : Int) _ HX4.out.net (by have := HM.out.net; omega)).mono ?_
    rintro e w5 ⟨rfl, hN5, hf5⟩
    refine hK _ _ ?_
    clear hK K
    refine wpO_nil ?_
    go_wp2
    refine bodyPost_end (v := .tuple #[]) (by simp [results, Try.results18, go_sem]) rfl ⟨b, ⟨_, rfl⟩, rfl, ?_, (HF4.out.any _).trans (hf5.mono fun k _ h => .inr (.inr (.inl (.inl h))))⟩
    rw [HST.out, if_pos HL.out, HCT.out]
    rw [HIN.out, if_pos rfl, Int.toNat_natCast] at hN5
    exact HX4.out.turnN hN5 hf5
  · have hl1 : ¬ (0 : Int) < (p.n.length : Int) := by omega
    have HL := Lib.hid hl
    go_enter Try.func18, Try.ntmps18
    go_wp2_with (go_at_call 19
                 refine (len_any b.np b.nm p.n [] _ HX.out.net).mono ?_
                 rintro e w2 ⟨rfl, hf2⟩
                 have HX2 := Lib.hid (HX.out.fr0 hf2)
                 have HS2 := Lib.hid (HSB.out.fr hf2 (fun h => h))
                 have HF2 : Hid (Fr No w w2) := Lib.hid (((Fr.refl No w).alloc _).trans hf2)
                 have z0 := HS2.out.cell 1
                 have zl := HS2.out.lt
                 have zz := HS2.out.frozens
                 have y2 := HX2.out.blk.cell 2
                 have yl := HX2.out.blk.lt
                 simp only [List.getElem?_cons_zero, List.getElem?_cons_succ] at z0 y2
                 clear hf2)
    refine bodyPost_end (v := .tuple #[]) (by simp [results, Try.results18, go_sem]) rfl ⟨b, ⟨_, rfl⟩, rfl, ?_, HF2.out.any _⟩
    rw [HST.out, if_neg HL.out]
    exact HX2.out
set_option maxRecDepth 100000 in
set_option maxHeartbeats 2000000 in
theorem lstep_twice (B : Nat) (b : PlB) (p : PlayS) (w : World) (X : PlAt B w b p) {K : Int} {R : Nat} (M : NumB K R p) (s : AStep) (ho : s.Ok) (hk : s.kind = 7) :
    Calls Try.prog 18 #[.pointer (some ⟨b.p0, 0, none⟩), s.val] w fun e w' => StepOut B w w' b (stepS p s) e := by
  have HX := Lib.hid (X.fr0 ((Fr.refl No w).alloc (Obj.cells s.vals.toArray 49)))
  have HM := Lib.hid M
  have HO := Lib.hid ho
  have HSB := Lib.hid (Blk.new w 49 s.vals)
  have c2 := X.blk.cell 2
  have cl := X.blk.lt
  simp only [List.getElem?_cons_zero, List.getElem?_cons_succ] at c2
  have HST : Hid (stepS p s = if 0 < p.n.length then { p with n := twiceL p.n (countI s.n p.n.length) } else p) := Lib.hid (by
    unfold stepS
    rw [if_neg (by omega), if_neg (by omega), if_neg (by omega), if_pos hk])
  clear X M ho
  obtain ⟨sk, sn⟩ := s
  obtain rfl : sk = 7 := hk
  by_cases hl : 0 < p.n.length
  · have hl1 : (0 : Int) < (p.n.length : Int) := by omega
    obtain ⟨k, hc, hkl, hct⟩ := countI_nat sn hl
    have HC := Lib.hid hc
    have HL := Lib.hid hl
    clear hc hct
    go_enter Try.func18, Try.ntmps18
    go_wp2_with (go_at_call 19
                 refine (len_any b.np b.nm p.n [] _ HX.out.net).mono ?_
                 rintro e w2 ⟨rfl, hf2⟩
                 have HX2 := Lib.hid (HX.out.fr0 hf2)
                 have HS2 := Lib.hid (HSB.out.fr hf2 (fun h => h))
                 have HF2 : Hid (Fr No w w2) := Lib.hid (((Fr.refl No w).alloc _).trans hf2)
                 have z0 := HS2.out.cell 1
                 have zl := HS2.out.lt
                 have zz := HS2.out.frozens
                 have y2 := HX2.out.blk.cell 2
                 have yl := HX2.out.blk.lt
                 simp only [List.getElem?_cons_zero, List.getElem?_cons_succ] at z0 y2
                 clear hf2)
    refine wp_region_o [(0, 0), (1, 0), (2, 0), (4, 0), (6, 0), (7, 0), (8, 0), (3, 1), (5, 1), (9, 1), (10, 2), (11, 2), (12, 3)] (by kernel_rfl) (by kernel_rfl) ?_
    repeat (first
      | (apply wpO_pure rfl rfl; (focus (intro w'; go_simp; (try rfl); done)); try simp only [Act.put, List.setIfInBounds_toArray, List.set_cons_zero, List.set_cons_succ])
      | (apply wpO_read rfl rfl; (focus (intro w' hf' hs'; (try simp only [World.size_drew, World.cell?_drew, World.size_alloc, World.size_setCell] at hs'); go_simp; (try rfl); done)); try simp only [Act.put, List.setIfInBounds_toArray, List.set_cons_zero, List.set_cons_succ])
      | (apply wpO_skip (by decide) rfl rfl; try simp only [Act.put, List.setIfInBounds_toArray, List.set_cons_zero, List.set_cons_succ]))
    refine wpO_loudE rfl fun K hK => ?_
    go_simp
    refine (len_any b.np b.nm p.n [] _ (HX2.out.fr0 (by (repeat (first | exact Fr.refl _ _ | assumption | refine Fr.drew ?_ | refine Fr.drewL ?_ | refine Fr.alloc ?_ _)))).net).mono ?_
    rintro e w3 ⟨rfl, hf3⟩
    refine hK _ _ ⟨hf3, ?_⟩
    clear hK K
    refine wpO_loudE rfl fun K hK => ?_
    go_simp
    refine (count_to HC.out _ HO.out.1 HO.out.2 (by omega) (by have := HM.out.net; omega)).mono ?_
    rintro e w4 ⟨rfl, hf4⟩
    refine hK _ _ ⟨hf4, ?_⟩
    clear hK K
    have HF4 := Lib.hid (HF2.out.trans (Fr.trans (by (repeat (first | exact Fr.refl _ _ | assumption | refine Fr.drew ?_ | refine Fr.drewL ?_ | refine Fr.alloc ?_ _))) (hf3.trans hf4)))
    have HX4 := Lib.hid (((HX2.out.fr0 ((Fr.refl No w2).drew)).fr0 hf3).fr0 hf4)
    refine wpO_loud rfl fun K hK => ?_
    go_simp
    refine (twice_any b.np b.nm p.n [] (k : Int) _ HX4.out.net).mono ?_
    rintro e w5 ⟨rfl, hN5, hf5⟩
    refine hK _ _ ?_
    clear hK K
    refine wpO_nil ?_
    go_wp2
    refine bodyPost_end (v := .tuple #[]) (by simp [results, Try.results18, go_sem]) rfl ⟨b, ⟨_, rfl⟩, rfl, ?_, (HF4.out.any _).trans (hf5.mono fun k _ h => .inr (.inr (.inl (.inl h))))⟩
    rw [HST.out, if_pos HL.out, HC.out]
    exact HX4.out.turnN hN5 hf5
  · have hl1 : ¬ (0 : Int) < (p.n.length : Int) := by omega
    have HL := Lib.hid hl
    go_enter Try.func18, Try.ntmps18
    go_wp2_with (go_at_call 19
                 refine (len_any b.np b.nm p.n [] _ HX.out.net).mono ?_
                 rintro e w2 ⟨rfl, hf2⟩
                 have HX2 := Lib.hid (HX.out.fr0 hf2)
                 have HS2 := Lib.hid (HSB.out.fr hf2 (fun h => h))
                 have HF2 : Hid (Fr No w w2) := Lib.hid (((Fr.refl No w).alloc _).trans hf2)
                 have z0 := HS2.out.cell 1
                 have zl := HS2.out.lt
                 have zz := HS2.out.frozens
                 have y2 := HX2.out.blk.cell 2
                 have yl := HX2.out.blk.lt
                 simp only [List.getElem?_cons_zero, List.getElem?_cons_succ] at z0 y2
                 clear hf2)
    refine bodyPost_end (v := .tuple #[]) (by simp [results, Try.results18, go_sem]) rfl ⟨b, ⟨_, rfl⟩, rfl, ?_, HF2.out.any _⟩
    rw [HST.out, if_neg HL.out]
    exact HX2.out
end Go.Proofs.Ytohnchkoldbpcaa

/- agent, the law: the numbers of a play stay small. -/
namespace Go.Proofs.Ytohnchkoldbpcaa
open Go Go.RowKit Go.Proofs

theorem sendL_len (m : Msg) {n : List Msg} (h : n.length ≤ 64) : (sendL m n).length ≤ 64 := by
  unfold sendL
  split
  · split
    · exact h
    · rw [List.length_append, List.length_singleton]; omega
  · exact h
theorem sendsL_len : ∀ (ms : List Msg) {n : List Msg}, n.length ≤ 64 → (sendsL ms n).length ≤ 64
  | [], _, h => h
  | m :: ms, _, h => sendsL_len ms (sendL_len m h)
theorem twiceL_len {n : List Msg} {i : Int} (h : n.length ≤ 64) : (twiceL n i).length ≤ 64 := by
  unfold twiceL
  split
  · split
    · exact h
    · split
      · rw [List.length_append, List.length_singleton]; omega
      · exact h
  · exact h
theorem erase_len {n : List Msg} {i : Nat} (h : n.length ≤ 64) : (n.eraseIdx i).length ≤ 64 := Nat.le_trans (List.length_eraseIdx_le n i) h
/-- what is sent when, in a list of works -/
def SentA (c : Int) (l : List WorkS) : Prop := ∀ x ∈ l, 0 ≤ x.sent ∧ x.sent ≤ c
def SentH (c : Int) (l : List Req) : Prop := ∀ x ∈ l, 0 ≤ x.sent ∧ x.sent ≤ c
theorem SentA.start {c : Int} {a : AgS} {m : Msg} (h : SentA c a.l) (hc : 0 ≤ c) : SentA c (a.start m c).1.l := by
  have hf : SentA c (a.forget m.low).l := by
    unfold AgS.forget
    split
    · exact fun x hx => h x (List.mem_of_mem_drop hx)
    · exact h
  unfold AgS.start
  split
  · simp only
    split
    · exact hf
    · split
      · rename_i x hx
        split
        · intro z hz
          rcases (List.mem_or_eq_of_mem_set hz).symm with rfl | hz
          · exact ⟨hc, Int.le_refl _⟩
          · exact hf z hz
        · exact hf
      · split
        · exact hf
        · intro z hz
          rcases insA_mem hz with rfl | hz
          · exact ⟨Int.le_refl _, hc⟩
          · exact hf z hz
  · exact h
theorem SentA.take {c : Int} {a : AgS} {m : Msg} (h : SentA c a.l) (hc : 0 ≤ c) : SentA c (a.take m c).1.l := by
  unfold AgS.take
  split
  · split
    · split
      · exact h.start hc
      · split
        · rename_i y hy
          intro z hz
          rcases (List.mem_or_eq_of_mem_set hz).symm with rfl | hz
          · exact h y (List.mem_of_getElem? (atA_some hy).1)
          · exact h z hz
        · exact h
    · exact h
  · exact h
theorem SentH.take {c : Int} {h : HubS} {m : Msg} (hs : SentH c h.l) : SentH c (h.take m).1.l ∧ (h.take m).1.l.length = h.l.length := by
  have key : ∀ (n st : Int), SentH c (setR n st h.l) := fun n st x hx => by
    obtain ⟨r, hr, rfl⟩ := List.mem_map.1 hx
    split
    · exact hs r hr
    · exact hs r hr
  unfold HubS.take
  split
  · split
    · exact ⟨hs, rfl⟩
    · split
      · exact ⟨key _ _, setR_length _ _ _⟩
      · exact ⟨key _ _, setR_length _ _ _⟩
  · exact ⟨hs, rfl⟩
theorem SentA.mono {c c' : Int} {l : List WorkS} (h : SentA c l) (hc : c ≤ c') : SentA c' l := fun x hx => by have := h x hx; omega
theorem SentH.mono {c c' : Int} {l : List Req} (h : SentH c l) (hc : c ≤ c') : SentH c' l := fun x hx => by have := h x hx; omega
theorem SentA.tick {c : Int} {a : AgS} (h : SentA c a.l) (hc : 0 ≤ c) : SentA c (a.tick c).1.l := by
  unfold AgS.tick
  split
  · intro x hx
    obtain ⟨y, hy, rfl⟩ := List.mem_map.1 hx
    split
    · exact ⟨hc, Int.le_refl _⟩
    · exact h y hy
  · exact h
theorem SentH.tick {c : Int} {h : HubS} (hs : SentH c h.l) (hc : 0 ≤ c) : SentH c (h.tick c).1.l := by
  unfold HubS.tick
  split
  · intro x hx
    rcases List.mem_append.1 hx with hx | hx
    · exact hs x (List.mem_of_mem_take hx)
    · obtain ⟨y, hy, rfl⟩ := List.mem_map.1 hx
      split
      · exact ⟨hc, Int.le_refl _⟩
      · exact hs y (List.mem_of_mem_drop hy)
  · exact hs
theorem NumB.sh {K : Int} {R : Nat} {p : PlayS} (h : NumB K R p) : SentH p.clock p.h.l := fun x hx => by
  obtain ⟨i, hi⟩ := List.mem_iff_getElem?.1 hx
  exact h.hs i x hi
theorem NumB.sa {K : Int} {R : Nat} {p : PlayS} (h : NumB K R p) : SentA p.clock p.a.l := fun x hx => by
  obtain ⟨i, hi⟩ := List.mem_iff_getElem?.1 hx
  exact h.ag i x hi
theorem NumB.mk' {K : Int} {R : Nat} {p : PlayS} (h0 : 0 ≤ p.clock) (h1 : p.clock ≤ K) (h2 : SentH p.clock p.h.l) (h3 : SentA p.clock p.a.l) (h4 : p.n.length ≤ 64) (h5 : p.h.l.length ≤ R) : NumB K R p :=
  ⟨h0, h1, fun i r hr => h2 r (List.mem_of_getElem? hr), fun i x hx => h3 x (List.mem_of_getElem? hx), h4, h5⟩
theorem NumB.mono {K K' : Int} {R R' : Nat} {p : PlayS} (h : NumB K R p) (hK : K ≤ K') (hR : R ≤ R') : NumB K' R' p := ⟨h.c0, by have := h.c1; omega, h.hs, h.ag, h.net, by have := h.hl; omega⟩
theorem NumB.tick {K : Int} {R : Nat} {p : PlayS} (h : NumB K R p) : NumB (K + 1) R (tickS p) := by
  have hc : 0 ≤ p.clock + 1 := by have := h.c0; omega
  have h1 := h.c1
  refine NumB.mk' hc (by show p.clock + 1 ≤ K + 1; omega) ((h.sh.mono (show p.clock ≤ p.clock + 1 by omega)).tick hc) ((h.sa.mono (show p.clock ≤ p.clock + 1 by omega)).tick hc) (sendsL_len _ (sendsL_len _ h.net)) ?_
  show (p.h.tick (p.clock + 1)).1.l.length ≤ R
  rw [(tickH_len p.h (p.clock + 1)).1]
  exact h.hl
theorem NumB.ticks : ∀ (k : Nat) {K : Int} {R : Nat} {p : PlayS}, NumB K R p → NumB (K + k) R (ticksS k p)
  | 0, K, R, p, h => h.mono (by omega) (Nat.le_refl _)
  | k + 1, K, R, p, h => (NumB.ticks k h.tick).mono (by omega) (Nat.le_refl _)
theorem ticksS_succ : ∀ (k : Nat) (p : PlayS), ticksS (k + 1) p = tickS (ticksS k p)
  | 0, _ => rfl
  | k + 1, p => ticksS_succ k (tickS p)
theorem repsS_same : ∀ (rs : List (Int × Int)) (p : PlayS), (repsS rs p).h = p.h ∧ (repsS rs p).a = p.a ∧ (repsS rs p).clock = p.clock ∧ (repsS rs p).n = p.n
  | [], _ => ⟨rfl, rfl, rfl, rfl⟩
  | r :: rs, p => by
    have h := repsS_same rs (repS p r)
    have e : (repS p r).h = p.h ∧ (repS p r).a = p.a ∧ (repS p r).clock = p.clock ∧ (repS p r).n = p.n := by
      unfold repS
      split <;> exact ⟨rfl, rfl, rfl, rfl⟩
    rw [e.1, e.2.1, e.2.2.1, e.2.2.2] at h
    exact h
theorem NumB.come {K : Int} {R : Nat} {p : PlayS} (h : NumB K R p) (i : Nat) : NumB K R (comeS p i) := by
  unfold comeS
  split
  · exact h
  · rename_i m hm
    split
    · unfold comeA
      simp only
      split
      · exact NumB.mk' h.c0 h.c1 h.sh (h.sa.take h.c0) (sendsL_len _ (erase_len h.net)) h.hl
      · exact NumB.mk' h.c0 h.c1 h.sh (h.sa.take h.c0) (sendsL_len _ (erase_len h.net)) h.hl
    · unfold comeH
      simp only
      have e := repsS_same (p.h.take m).2.2.1 { p with h := (p.h.take m).1 }
      refine NumB.mk' ?_ ?_ ?_ ?_ (sendsL_len _ (erase_len h.net)) ?_
      · show 0 ≤ (repsS _ _).clock
        rw [e.2.2.1]; exact h.c0
      · show (repsS _ _).clock ≤ K
        rw [e.2.2.1]; exact h.c1
      · show SentH (repsS _ _).clock (repsS _ _).h.l
        rw [e.2.2.1, e.1]; exact h.sh.take.1
      · show SentA (repsS _ _).clock (repsS _ _).a.l
        rw [e.2.2.1, e.2.1]; exact h.sa
      · show (repsS _ _).h.l.length ≤ R
        rw [e.1, h.sh.take.2]; exact h.hl
theorem NumB.ask {K : Int} {R : Nat} {p : PlayS} (h : NumB K R p) (mins : Int) : NumB K (R + 1) (askS p mins) := by
  unfold askS
  split
  · refine NumB.mk' h.c0 h.c1 ?_ h.sa (sendsL_len _ h.net) ?_
    · intro x hx
      rcases List.mem_append.1 hx with hx | hx
      · exact h.sh x hx
      · simp at hx
        subst hx
        exact ⟨h.c0, Int.le_refl _⟩
    · show (p.h.l ++ [newR p mins]).length ≤ R + 1
      rw [List.length_append, List.length_singleton]
      have := h.hl
      omega
  · exact h.mono (Int.le_refl _) (by omega)
theorem NumB.setN {K : Int} {R : Nat} {p : PlayS} (h : NumB K R p) {n : List Msg} (hn : n.length ≤ 64) : NumB K R { p with n := n } := ⟨h.c0, h.c1, h.hs, h.ag, hn, h.hl⟩
theorem NumB.step {K : Int} {R : Nat} {p : PlayS} (h : NumB K R p) (s : AStep) : NumB (K + 7) (R + 1) (stepS p s) := by
  unfold stepS
  split
  · exact (h.ask _).mono (by omega) (Nat.le_refl _)
  · split
    · split
      · exact (h.come _).mono (by omega) (by omega)
      · exact h.mono (by omega) (by omega)
    · split
      · split
        · exact (h.setN (erase_len (i := (countI s.n p.n.length).toNat) h.net)).mono (by omega) (by omega)
        · exact h.mono (by omega) (by omega)
      · split
        · split
          · exact (h.setN (twiceL_len (i := countI s.n p.n.length) h.net)).mono (by omega) (by omega)
          · exact h.mono (by omega) (by omega)
        · have := countI_range s.n 7 (by omega)
          exact (NumB.ticks (countI s.n 7).toNat h).mono (by omega) (by omega)
theorem numB_begin : NumB 100 0 beginS := NumB.mk' (by decide) (by decide) (fun x hx => by cases hx) (fun x hx => by cases hx) (by decide) (by decide)
end Go.Proofs.Ytohnchkoldbpcaa

/- agent, the law: step, the clock goes on. -/
namespace Go.Proofs.Ytohnchkoldbpcaa
open Go Go.RowKit Go.Proofs

/-- the walk stops at an arm that leaves this -/
def StopHere (p : Prop) := p
theorem stopHere {p : Prop} (h : StopHere p) : p := h
def TsRel (B : Nat) (w : World) (b : PlB) (p : PlayS) (N : Nat) (g : Nat) (v6 : Value) (wr : World) : Prop :=
  ∃ i : Nat, i + g = N ∧ v6 = .int .i64 i ∧ PlAt B wr b (ticksS i p) ∧ Fr b.F w wr
set_option maxRecDepth 100000 in
set_option maxHeartbeats 2000000 in
theorem lstep_ticks (B : Nat) (b : PlB) (p : PlayS) (w : World) (X : PlAt B w b p) (I : Inv p) {K : Int} {R : Nat} (M : NumB K R p) (hKK : K + 7 ≤ 1000000) (hR : R ≤ 1000000) (s : AStep) (ho : s.Ok) (hk : s.kind < 0 ∨ 7 < s.kind) :
    Calls Try.prog 18 #[.pointer (some ⟨b.p0, 0, none⟩), s.val] w fun e w' => StepOut B w w' b (stepS p s) e := by
  have HX := Lib.hid (X.fr0 ((Fr.refl No w).alloc (Obj.cells s.vals.toArray 49)))
  have HI := Lib.hid I
  have HM := Lib.hid M
  have HO := Lib.hid ho
  have HSB := Lib.hid (Blk.new w 49 s.vals)
  have hlt : w.heap.size < (w.alloc (Obj.cells s.vals.toArray 49)).heap.size := by simp
  have HNP := Lib.hid (show ∀ k, b.F k → k < w.heap.size from fun k h => by
    rcases h with h | h | h | h
    · exact X.ltH k h
    · exact X.ltA k h
    · exact X.ltN k h
    · exact X.ltP k h)
  have k0 : (s.kind == 0) = false := by simp; omega
  have k1 : (s.kind == 1) = false := by simp; omega
  have k2 : (s.kind == 2) = false := by simp; omega
  have k3 : (s.kind == 3) = false := by simp; omega
  have k4 : (s.kind == 4) = false := by simp; omega
  have k5 : (s.kind == 5) = false := by simp; omega
  have k6 : (s.kind == 6) = false := by simp; omega
  have k7 : (s.kind == 7) = false := by simp; omega
  have hcr := countI_range s.n 7 (by omega)
  obtain ⟨N, hN⟩ : ∃ N, N = (countI s.n 7).toNat := ⟨_, rfl⟩
  have HC := Lib.hid (show countI s.n 7 = (N : Int) by omega)
  have HST : Hid (stepS p s = ticksS N p) := Lib.hid (by
    unfold stepS
    rw [if_neg (by omega), if_neg (by omega), if_neg (by omega), if_neg (by omega), hN])
  have hN7 : N < 7 := by omega
  clear X I M ho hN hcr
  obtain ⟨sk, sn⟩ := s
  simp only at k0 k1 k2 k3 k4 k5 k6 k7
  go_enter Try.func18, Try.ntmps18
  go_wp2
  go_loopg [6] N (fun g v6 wr => TsRel B (w.alloc (Obj.cells (AStep.vals ⟨sk, sn⟩).toArray 49)) b p N g v6 wr)
  case atStart => exact ⟨0, by omega, rfl, HX.out.fr0 (by (repeat (first | exact Fr.refl _ _ | assumption | refine Fr.drew ?_ | refine Fr.drewL ?_ | refine Fr.alloc ?_ _))), by (repeat (first | exact Fr.refl _ _ | assumption | refine Fr.drew ?_ | refine Fr.drewL ?_ | refine Fr.alloc ?_ _))⟩
  case round =>
    obtain ⟨i, hgi, rfl, hX, hF⟩ := hrel
    have HX1 := Lib.hid hX
    have HF1 := Lib.hid hF
    have hi0 : (0 : Int) ≤ (i : Int) := by omega
    have hS1 := HSB.out.fr hF (fun e => by have := HNP.out _ e; omega)
    have HS1 := Lib.hid hS1
    have z1 := hS1.cell 1
    have zl := hS1.lt
    simp only [List.getElem?_cons_zero, List.getElem?_cons_succ] at z1
    clear hX hF hS1
    by_cases hi : i < N
    · have hi1 : (i : Int) < (N : Int) := by omega
      go_wp2_with (first
        | (go_at_call 34
           refine (count_to HC.out _ HO.out.1 HO.out.2 (by omega) (by omega)).mono ?_
           rintro e w2 ⟨rfl, hf2⟩
           have HX2 := Lib.hid (HX1.out.fr0 hf2)
           have HF2 := Lib.hid (HF1.out.trans (hf2.any _))
           clear hf2)
        | (go_at_call 21
           refine (ltick_any B b (ticksS i p) _ HX2.out (inv_ticks i HI.out) (NumB.ticks i HM.out) (by omega) hR).mono ?_
           rintro e w3 ⟨⟨v3, rfl⟩, hX3, hF3⟩))
      go_roundg (N - (i + 1))
      case measure => omega
      case rel => exact ⟨i + 1, by omega, by go_num, by rw [ticksS_succ]; exact hX3, HF2.out.trans hF3⟩
    · obtain rfl : i = N := by omega
      clear hgi hi
      have hnn : ¬ ((i : Int) < (i : Int)) := by omega
      go_wp2_with (go_at_call 34; apply stopHere)
      unfold StopHere
      refine (count_to HC.out _ HO.out.1 HO.out.2 (by omega) (by omega)).mono ?_
      rintro e w2 ⟨rfl, hf2⟩
      go_wp2_with (go_at_call 34; apply stopHere)
      have HX2 := Lib.hid (HX1.out.fr0 hf2)
      have HF2 := Lib.hid (HF1.out.trans (hf2.any _))
      refine bodyPost_end (v := .tuple #[]) (by simp [results, Try.results18, go_sem]) rfl ⟨b, ⟨_, rfl⟩, rfl, ?_, ((((Fr.refl No w).alloc _).any _).trans HF2.out)⟩
      rw [HST.out]
      exact HX2.out
end Go.Proofs.Ytohnchkoldbpcaa

/- agent, the law: step, a run is asked. -/
namespace Go.Proofs.Ytohnchkoldbpcaa
open Go Go.RowKit Go.Proofs

section
variable {B : Nat} {w w' : World} {b : PlB} {p : PlayS}
theorem PlAt.growEnds (X : PlAt B w b p) {v' : Value} {x : Int} (ho : w'.ownsRow B 2 1 v' (p.ends.length + 1) (encN p.ends ++ [.int .i64 x])) (hg : w.grownBy w' b.ve.ownBlock) (hat : v'.ownBlock = b.ve.ownBlock ∨ v'.ownBlock = some w.heap.size) :
    PlAt B (w'.setCell ⟨b.p0, 5, none⟩ v') { b with ve := v' } { p with ends := p.ends ++ [x] } ∧ Fr b.P w (w'.setCell ⟨b.p0, 5, none⟩ v') := by
  have F1 : Fr (fun k => some k = b.ve.ownBlock) w w' := Fr.of_grown hg
  have F2 : Fr (fun k => k = b.p0) w' (w'.setCell ⟨b.p0, 5, none⟩ v') := fr_cell rfl
  have hb1 : Blk w' b.p0 54 (plV b p) := X.blk.fr F1 fun e => X.ve_p0 e.symm rfl
  have F : Fr b.P w (w'.setCell ⟨b.p0, 5, none⟩ v') := (F1.mono fun k _ e => .inr (.inl e.symm)).step F2 fun k e => .inl (.inl e)
  refine ⟨X.turnP (ve' := v') (vs' := b.vs) rfl rfl rfl F (hb1.set_ 5 v') ?_ ?_ ?_, F⟩
  · rw [show (p.ends ++ [x]).length = p.ends.length + 1 by simp, show encN (p.ends ++ [x]) = encN p.ends ++ [.int .i64 x] from encN_snoc _ _]
    exact own_fr ho F2 fun k hk e => row_ne_blk ho hb1 (by decide) hk e
  · refine own_fr (own_fr X.seen F1 fun k hk e => ?_) F2 fun k hk e => X.vs_p0 hk e
    exact X.ne_rows e.symm hk rfl
  · rintro k (h | h)
    · rcases hat with e | e
      · rw [e] at h; exact .inl (.inr (.inl h))
      · rw [e] at h; injection h with h; exact .inr (by omega)
    · exact .inl (.inr (.inr h))
theorem PlAt.growSeen (X : PlAt B w b p) {v' : Value} {x : Int} (ho : w'.ownsRow B 3 1 v' (p.seen.length + 1) (encN p.seen ++ [.int .i64 x])) (hg : w.grownBy w' b.vs.ownBlock) (hat : v'.ownBlock = b.vs.ownBlock ∨ v'.ownBlock = some w.heap.size) :
    PlAt B (w'.setCell ⟨b.p0, 6, none⟩ v') { b with vs := v' } { p with seen := p.seen ++ [x] } ∧ Fr b.P w (w'.setCell ⟨b.p0, 6, none⟩ v') := by
  have F1 : Fr (fun k => some k = b.vs.ownBlock) w w' := Fr.of_grown hg
  have F2 : Fr (fun k => k = b.p0) w' (w'.setCell ⟨b.p0, 6, none⟩ v') := fr_cell rfl
  have hb1 : Blk w' b.p0 54 (plV b p) := X.blk.fr F1 fun e => X.vs_p0 e.symm rfl
  have F : Fr b.P w (w'.setCell ⟨b.p0, 6, none⟩ v') := (F1.mono fun k _ e => .inr (.inr e.symm)).step F2 fun k e => .inl (.inl e)
  refine ⟨X.turnP (ve' := b.ve) (vs' := v') rfl rfl rfl F (hb1.set_ 6 v') ?_ ?_ ?_, F⟩
  · refine own_fr (own_fr X.ends F1 fun k hk e => ?_) F2 fun k hk e => X.ve_p0 hk e
    exact X.ne_rows hk e.symm rfl
  · rw [show (p.seen ++ [x]).length = p.seen.length + 1 by simp, show encN (p.seen ++ [x]) = encN p.seen ++ [.int .i64 x] from encN_snoc _ _]
    exact own_fr ho F2 fun k hk e => row_ne_blk ho hb1 (by decide) hk e
  · rintro k (h | h)
    · exact .inl (.inr (.inl h))
    · rcases hat with e | e
      · rw [e] at h; exact .inl (.inr (.inr h))
      · rw [e] at h; injection h with h; exact .inr (by omega)
end
/-- what the law's Ask answers: a hub, a message, an error -/
def askR (p : PlayS) (mins : Int) : HubS × Msg × Int := if p.h.l.length - p.h.frm < 64 then (p.h.add (newR p mins), startM (p.h.add (newR p mins)) (newR p mins), 0) else (p.h, zeroMsg, 4)
theorem askE_eq {p : PlayS} (I : Inv p) {K : Int} {R : Nat} (M : NumB K R p) (hKK : K ≤ 1000000) (hR : R ≤ 1000000) {mins : Int} (h0 : 0 ≤ mins) (h1 : mins ≤ 11) : p.h.askE (p.run + 1) mins jobA p.clock = (askR p mins).2.2 := by
  have e1 : argB (p.run + 1) mins jobA = true := by
    unfold argB isRunB
    have := I.h.run
    have := M.hl
    have hs : jobA.size = 1 := rfl
    simp only [Bool.and_eq_true, decide_eq_true_eq, hs]
    omega
  have e2 : isClockB p.clock = true := by
    unfold isClockB
    have := M.c0
    have := M.c1
    simp only [Bool.and_eq_true, decide_eq_true_eq]
    omega
  have e3 : lastR p.h.l < p.run + 1 := by rw [last_eq I.h, I.h.run]; omega
  unfold HubS.askE askR
  rw [if_pos e1, if_pos e2, if_pos e3]
  split <;> rfl
theorem jobA_ne : jobA.toList.isEmpty = false := by
  first
    | kernel_rfl
    | decide +kernel
    | (unfold jobA ByteArray.toList; rw [ByteArray.toList.loop]; simp)
theorem lask_any (B : Nat) (b : PlB) (p : PlayS) (w : World) (X : HubAt w b.hp b.hm b.hu b.hbs p.h) (I : Inv p) {K : Int} {R : Nat} (M : NumB K R p) (hKK : K ≤ 1000000) (hR : R ≤ 1000000) (mins : Int) (h0 : 0 ≤ mins) (h1 : mins ≤ 11) (code : Int) (hc : code = (p.run + 1).tmod 3) :
    Calls Try.prog 6 #[.pointer (some ⟨b.hp, 0, none⟩), .int .i64 (p.run + 1), .int .i64 mins, .int .i64 code, .string jobA, .int .i64 p.clock] w fun e w' => ∃ u' bs', e = .returned (msgErr (askR p mins).2.1 (askR p mins).2.2) ∧
      HubAt w' b.hp b.hm u' bs' (askR p mins).1 ∧ Fr b.H w w' ∧ ∀ k, HubF b.hp b.hm u' bs' k → b.H k ∨ w.heap.size ≤ k := by
  subst hc
  have e1 : isRunB (p.run + 1) = true := by
    unfold isRunB
    have := I.h.run
    have := M.hl
    simp only [Bool.and_eq_true, decide_eq_true_eq]
    omega
  have e2 : isClockB p.clock = true := by
    unfold isClockB
    have := M.c0
    have := M.c1
    simp only [Bool.and_eq_true, decide_eq_true_eq]
    omega
  have e3 : lastR p.h.l < p.run + 1 := by rw [last_eq I.h, I.h.run]; omega
  by_cases hr : p.h.l.length - p.h.frm < 64
  · have ea : askR p mins = (p.h.add (newR p mins), startM (p.h.add (newR p mins)) (newR p mins), 0) := by unfold askR; rw [if_pos hr]
    rw [ea]
    refine (ask_ok b.hp b.hm b.hu b.hbs p.h w X (p.run + 1) mins ((p.run + 1).tmod 3) p.clock jobA e1 h0 (by omega) jobA_ne (by decide) (by decide) e2 e3 hr (findR_none I.h (.inr (by rw [I.h.run]; omega))) (by have := M.hl; omega) (by have := I.h.run; omega) (by have := I.h.run; have := M.hl; omega)).mono ?_
    rintro e w' ⟨u', b', rfl, hH, hf, hF⟩
    exact ⟨u', _, rfl, hH, hf, hF⟩
  · have ea : askR p mins = (p.h, zeroMsg, 4) := by unfold askR; rw [if_neg hr]
    rw [ea]
    refine (ask_full b.hp b.hm b.hu b.hbs p.h w X (p.run + 1) mins ((p.run + 1).tmod 3) p.clock jobA e1 h0 (by omega) jobA_ne (by decide) (by decide) e2 e3 (by omega)).mono ?_
    rintro e w' ⟨rfl, hf⟩
    exact ⟨b.hu, b.hbs, rfl, X.fr0 hf, hf.any _, fun _ h => .inl h⟩
end Go.Proofs.Ytohnchkoldbpcaa

/- agent, the law: step, a run is asked: the walk. -/
namespace Go.Proofs.Ytohnchkoldbpcaa
open Go Go.RowKit Go.Proofs

theorem count_same {k n c : Int} (hc : countI k n = c) (w : World) (hk : -9223372036854775808 ≤ k) (hk' : k ≤ 9223372036854775807) (hn : 0 < n) (hn' : n ≤ 2147483648) :
    Calls Try.prog 34 #[.int .i64 k, .int .i64 n] w fun e w' => e = .returned (.int .i64 c) ∧ w' = w := by
  subst hc
  have e : countI k n = k % n := by simp [countI]; omega
  rw [e]
  clear e
  have h1 := Int.emod_nonneg k (show n ≠ 0 by omega)
  have h2 := Int.emod_lt_of_pos k hn
  by_cases hp : 0 ≤ k
  · go_enter Try.func34, Try.ntmps34
    go_wp2
    go_ret
    exact ⟨rfl, rfl⟩
  · have hp' : k < 0 := by omega
    have h1' : ¬ n < 1 := by omega
    go_enter Try.func34, Try.ntmps34
    have ht : k.tmod n = k % n ∨ k.tmod n = k % n - n := by
      have := Int.tmod_eq_emod (a := k) (b := n)
      have hna : (n.natAbs : Int) = n := by omega
      split at this <;> omega
    have HT := Lib.hid ht
    clear ht
    go_wp2
    all_goals go_ret
    · exact ⟨ret_int (by have := HT.out; unfold wrap64; omega), rfl⟩
    · exact ⟨ret_int (by have := HT.out; omega), rfl⟩
theorem fr_set8 {S : Nat → Prop} {w : World} {g : Nat} {x : Msg} (h : S g) : Fr S w (set8 w g x) := (Fr.refl S w).set8 (.inl h) x
theorem lask_to (B : Nat) (b : PlB) (p : PlayS) (w : World) (X : HubAt w b.hp b.hm b.hu b.hbs p.h) (I : Inv p) {K : Int} {R : Nat} (M : NumB K R p) (hKK : K ≤ 1000000) (hR : R ≤ 1000000) (mins : Int) (h0 : 0 ≤ mins) (h1 : mins ≤ 11) {h' : HubS} {m : Msg} {er : Int} (ha : askR p mins = (h', m, er)) :
    Calls Try.prog 6 #[.pointer (some ⟨b.hp, 0, none⟩), .int .i64 (p.run + 1), .int .i64 mins, .int .i64 ((p.run + 1).tmod 3), .string jobA, .int .i64 p.clock] w fun e w' => ∃ u' bs', e = .returned (msgErr m er) ∧
      HubAt w' b.hp b.hm u' bs' h' ∧ Fr b.H w w' ∧ ∀ k, HubF b.hp b.hm u' bs' k → b.H k ∨ w.heap.size ≤ k := by
  have h := lask_any B b p w X I M hKK hR mins h0 h1 _ rfl
  rw [ha] at h
  exact h
set_option maxRecDepth 100000 in
set_option maxHeartbeats 4000000 in
theorem lstep_ask_full (B : Nat) (b : PlB) (p : PlayS) (w : World) (X : PlAt B w b p) (I : Inv p) {K : Int} {R : Nat} (M : NumB K R p) (hKK : K ≤ 1000000) (hR : R ≤ 1000000) (s : AStep) (ho : s.Ok) (hk : s.kind = 0 ∨ s.kind = 1) (hroom : ¬ p.h.l.length - p.h.frm < 64) :
    Calls Try.prog 18 #[.pointer (some ⟨b.p0, 0, none⟩), s.val] w fun e w' => StepOut B w w' b (stepS p s) e := by
  have HX := Lib.hid (X.fr0 ((Fr.refl No w).alloc (Obj.cells s.vals.toArray 49)))
  have HI := Lib.hid I
  have HM := Lib.hid M
  have HO := Lib.hid ho
  have HSB := Lib.hid (Blk.new w 49 s.vals)
  have y0 := X.blk.cell 0
  have y3 := X.blk.cell 3
  have y4 := X.blk.cell 4
  have yl := X.blk.lt
  simp only [List.getElem?_cons_zero, List.getElem?_cons_succ] at y0 y3 y4
  have hmr := countI_range s.n 12 (by omega)
  obtain ⟨mins, hmm⟩ : ∃ mins, countI s.n 12 = mins := ⟨_, rfl⟩
  rw [hmm] at hmr
  have HC := Lib.hid hmm
  have hm0 : 0 ≤ mins := hmr.1
  have hm1 : mins ≤ 11 := by omega
  have hrw : IntKind.i64.wrap (p.run + 1) = p.run + 1 := IntWalk.i64_in _ (by have := I.h.run; have := M.hl; omega)
  have hrun0 : 0 ≤ p.run := by have := I.h.run; omega
  have HAR := Lib.hid (show askR p mins = (p.h, zeroMsg, 4) by unfold askR; rw [if_neg hroom])
  have HST : Hid (stepS p s = p) := Lib.hid (by
    unfold stepS
    rw [if_pos hk, hmm]
    unfold askS
    rw [askE_eq I M hKK hR hm0 hm1]
    unfold askR
    rw [if_neg hroom]
    rfl)
  clear X I M ho hmm hroom
  obtain ⟨sk, sn⟩ := s
  rcases hk with h | h
  · have k0 : (sk == 0) = true := by simpa using h
    clear h
    go_enter Try.func18, Try.ntmps18
    go_wp2
    refine wp_region_b [(0, 0), (1, 0), (2, 0), (4, 0), (5, 0), (6, 0), (9, 0), (12, 0), (13, 0), (14, 0), (18, 0), (19, 0), (20, 0), (3, 1), (7, 1), (8, 0), (10, 1), (15, 1), (16, 0), (17, 0), (21, 1), (11, 1)] 22 3 26 2 [(23, 0), (24, 0), (25, 0), (26, 2), (27, 3), (28, 0)] [(22, 3), (23, 0), (24, 0), (25, 0), (27, 3), (28, 0)] (by kernel_rfl) (by kernel_rfl) ?_
    repeat (first
      | (apply wpO_pure rfl rfl; (focus (intro w'; go_simp; (try rfl); done)); try simp only [Act.put, List.setIfInBounds_toArray, List.set_cons_zero, List.set_cons_succ])
      | (apply wpO_read rfl rfl; (focus (intro w' hf' hs'; (try simp only [World.size_drew, World.cell?_drew, World.size_alloc, World.size_setCell] at hs'); go_simp; (try rfl); done)); try simp only [Act.put, List.setIfInBounds_toArray, List.set_cons_zero, List.set_cons_succ])
      | (apply wpO_skip (by decide) rfl rfl; try simp only [Act.put, List.setIfInBounds_toArray, List.set_cons_zero, List.set_cons_succ]))
    apply wpO_call (v := .int .i64 mins) 34 #[.int .i64 sn, .int .i64 12] rfl rfl
    (focus (intro w'; go_simp; (try rfl); done))
    (focus (intro w' hf'; exact count_same HC.out _ HO.out.1 HO.out.2 (by omega) (by omega)))
    try simp only [Act.put, List.setIfInBounds_toArray, List.set_cons_zero, List.set_cons_succ]
    refine br_both ?_ ?_
    · skip
      refine wpO_loud rfl fun K hK => ?_
      go_simp
      refine (lask_to B b p _ (HX.out.fr0 (by (repeat (first | exact Fr.refl _ _ | assumption | refine Fr.drew ?_ | refine Fr.drewL ?_ | refine Fr.alloc ?_ _)))).hub HI.out HM.out hKK hR mins hm0 hm1 HAR.out).mono ?_
      rintro e w3 ⟨u3, bs3, rfl, hH3, hF3, hN3⟩
      refine hK _ _ ?_
      clear hK K
      have HX3 := Lib.hid ((HX.out.fr0 (by (repeat (first | exact Fr.refl _ _ | assumption | refine Fr.drew ?_ | refine Fr.drewL ?_ | refine Fr.alloc ?_ _)))).turnH hH3 hF3 hN3)
      have HF3 : Hid (Fr b.F w w3) := Lib.hid ((((Fr.refl No w).alloc _).drew.any _).trans (hF3.mono fun k _ h => .inl h))
      clear hH3 hF3 hN3
      repeat (first
        | (apply wpO_pure rfl rfl; (focus (intro w'; go_simp; (try rfl); done)); try simp only [Act.put, List.setIfInBounds_toArray, List.set_cons_zero, List.set_cons_succ])
        | (apply wpO_read rfl rfl; (focus (intro w' hf' hs'; (try simp only [World.size_drew, World.cell?_drew, World.size_alloc, World.size_setCell] at hs'); go_simp; (try rfl); done)); try simp only [Act.put, List.setIfInBounds_toArray, List.set_cons_zero, List.set_cons_succ])
        | (apply wpO_skip (by decide) rfl rfl; try simp only [Act.put, List.setIfInBounds_toArray, List.set_cons_zero, List.set_cons_succ]))
      refine wpO_loudE rfl fun K hK => ?_
      go_simp
      refine hK _ _ ⟨by (repeat (first | exact Fr.refl _ _ | assumption | refine Fr.drew ?_ | refine Fr.drewL ?_ | refine Fr.alloc ?_ _)), ?_⟩
      clear hK K
      repeat (first
        | (apply wpO_pure rfl rfl; (focus (intro w'; go_simp; (try rfl); done)); try simp only [Act.put, List.setIfInBounds_toArray, List.set_cons_zero, List.set_cons_succ])
        | (apply wpO_read rfl rfl; (focus (intro w' hf' hs'; (try simp only [World.size_drew, World.cell?_drew, World.size_alloc, World.size_setCell] at hs'); go_simp; (try rfl); done)); try simp only [Act.put, List.setIfInBounds_toArray, List.set_cons_zero, List.set_cons_succ])
        | (apply wpO_skip (by decide) rfl rfl; try simp only [Act.put, List.setIfInBounds_toArray, List.set_cons_zero, List.set_cons_succ]))
      refine wpO_loud rfl fun K hK => ?_
      go_simp
      refine hK _ _ ?_
      clear hK K
      repeat (first
        | (apply wpO_pure rfl rfl; (focus (intro w'; go_simp; (try rfl); done)); try simp only [Act.put, List.setIfInBounds_toArray, List.set_cons_zero, List.set_cons_succ])
        | (apply wpO_read rfl rfl; (focus (intro w' hf' hs'; (try simp only [World.size_drew, World.cell?_drew, World.size_alloc, World.size_setCell] at hs'); go_simp; (try rfl); done)); try simp only [Act.put, List.setIfInBounds_toArray, List.set_cons_zero, List.set_cons_succ])
        | (apply wpO_skip (by decide) rfl rfl; try simp only [Act.put, List.setIfInBounds_toArray, List.set_cons_zero, List.set_cons_succ]))
      repeat (first
        | (apply wpO_pure rfl rfl; (focus (intro w'; go_simp; (try rfl); done)); try simp only [Act.put, List.setIfInBounds_toArray, List.set_cons_zero, List.set_cons_succ])
        | (apply wpO_read rfl rfl; (focus (intro w' hf' hs'; (try simp only [World.size_drew, World.cell?_drew, World.size_alloc, World.size_setCell] at hs'); go_simp; (try rfl); done)); try simp only [Act.put, List.setIfInBounds_toArray, List.set_cons_zero, List.set_cons_succ])
        | (apply wpO_skip (by decide) rfl rfl; try simp only [Act.put, List.setIfInBounds_toArray, List.set_cons_zero, List.set_cons_succ]))
      refine wpO_nil ?_
      generalize hW : World.alloc w3 _ = W
      have HXW := Lib.hid (HX3.out.fr0 (show Fr No w3 W by subst hW; exact (Fr.refl No w3).alloc _))
      have HMB : Hid (Blk W w3.heap.size 26 (Msg.vals (zeroMsg))) := Lib.hid (by subst hW; exact Blk.new w3 _ _)
      have HFW : Hid (Fr b.F w W) := Lib.hid (by subst hW; exact HF3.out.alloc _)
      have HGP : Hid (¬ w3.heap.size = b.p0) := Lib.hid (by have := HX3.out.blk.lt; intro e; have e2 : b.p0 < w3.heap.size := this; omega)
      clear hW y0 y3 y4 yl HX HX3 HF3
      go_wp2
      refine bodyPost_end (v := .tuple #[]) (by simp [results, Try.results18, go_sem]) rfl ⟨{ b with hu := u3, hbs := bs3 }, ⟨_, rfl⟩, rfl, ?_, HFW.out⟩
      rw [HST.out]
      exact HXW.out
    · skip
      refine wpO_loudE rfl fun K hK => ?_
      go_simp
      refine hK _ _ ⟨by (repeat (first | exact Fr.refl _ _ | assumption | refine Fr.drew ?_ | refine Fr.drewL ?_ | refine Fr.alloc ?_ _)), ?_⟩
      clear hK K
      repeat (first
        | (apply wpO_pure rfl rfl; (focus (intro w'; go_simp; (try rfl); done)); try simp only [Act.put, List.setIfInBounds_toArray, List.set_cons_zero, List.set_cons_succ])
        | (apply wpO_read rfl rfl; (focus (intro w' hf' hs'; (try simp only [World.size_drew, World.cell?_drew, World.size_alloc, World.size_setCell] at hs'); go_simp; (try rfl); done)); try simp only [Act.put, List.setIfInBounds_toArray, List.set_cons_zero, List.set_cons_succ])
        | (apply wpO_skip (by decide) rfl rfl; try simp only [Act.put, List.setIfInBounds_toArray, List.set_cons_zero, List.set_cons_succ]))
      have HA2 := Lib.hid (HX.out.fr0 (((Fr.refl No _).drew).alloc (Obj.cells zeroMsg.vals.toArray 26)))
      have HZ2 := Lib.hid (Blk.new (w.alloc (Obj.cells (AStep.vals ⟨sk, sn⟩).toArray 49)).drew 26 zeroMsg.vals)
      refine wpO_loud rfl fun K hK => ?_
      go_simp
      refine (lask_to B b p _ HA2.out.hub HI.out HM.out hKK hR mins hm0 hm1 HAR.out).mono ?_
      rintro e w3 ⟨u3, bs3, rfl, hH3, hF3, hN3⟩
      refine hK _ _ ?_
      clear hK K
      have hZ3 := HZ2.out.fr hF3 (fun e => HA2.out.hub.no_msg _ _ _ HZ2.out e)
      simp only [World.size_drew, World.size_alloc] at hZ3 hN3
      have HZ3 := Lib.hid hZ3
      obtain ⟨f0, f1, f2, f3, f4, f5, f6, f7⟩ := HZ3.out.cells8
      have f8 := HZ3.out.lt
      have f9 := HZ3.out.frozens
      have HF3 := Lib.hid hF3
      have HH3 := Lib.hid hH3
      have HN3 := Lib.hid hN3
      clear hF3 hH3 hN3 hZ3
      repeat (first
        | (apply wpO_pure rfl rfl; (focus (intro w'; go_simp; (try rfl); done)); try simp only [Act.put, List.setIfInBounds_toArray, List.set_cons_zero, List.set_cons_succ])
        | (apply wpO_read rfl rfl; (focus (intro w' hf' hs'; (try simp only [World.size_drew, World.cell?_drew, World.size_alloc, World.size_setCell] at hs'); go_simp; (try rfl); done)); try simp only [Act.put, List.setIfInBounds_toArray, List.set_cons_zero, List.set_cons_succ])
        | (apply wpO_skip (by decide) rfl rfl; try simp only [Act.put, List.setIfInBounds_toArray, List.set_cons_zero, List.set_cons_succ]))
      refine wpO_loud rfl fun K hK => ?_
      go_simp
      refine hK _ _ ?_
      clear hK K
      repeat (first
        | (apply wpO_pure rfl rfl; (focus (intro w'; go_simp; (try rfl); done)); try simp only [Act.put, List.setIfInBounds_toArray, List.set_cons_zero, List.set_cons_succ])
        | (apply wpO_read rfl rfl; (focus (intro w' hf' hs'; (try simp only [World.size_drew, World.cell?_drew, World.size_alloc, World.size_setCell] at hs'); go_simp; (try rfl); done)); try simp only [Act.put, List.setIfInBounds_toArray, List.set_cons_zero, List.set_cons_succ])
        | (apply wpO_skip (by decide) rfl rfl; try simp only [Act.put, List.setIfInBounds_toArray, List.set_cons_zero, List.set_cons_succ]))
      repeat (first
        | (apply wpO_pure rfl rfl; (focus (intro w'; go_simp; (try rfl); done)); try simp only [Act.put, List.setIfInBounds_toArray, List.set_cons_zero, List.set_cons_succ])
        | (apply wpO_read rfl rfl; (focus (intro w' hf' hs'; (try simp only [World.size_drew, World.cell?_drew, World.size_alloc, World.size_setCell] at hs'); go_simp; (try rfl); done)); try simp only [Act.put, List.setIfInBounds_toArray, List.set_cons_zero, List.set_cons_succ])
        | (apply wpO_skip (by decide) rfl rfl; try simp only [Act.put, List.setIfInBounds_toArray, List.set_cons_zero, List.set_cons_succ]))
      refine wpO_nil ?_
      generalize hW : World.setCell _ _ _ = W
      have hFS : Fr (fun k => k = w.heap.size + 1) w3 W := by subst hW; exact fr_set8 (S := fun k => k = w.heap.size + 1) (x := (zeroMsg)) rfl
      have hF1 : Fr b.H (w.alloc (Obj.cells (AStep.vals ⟨sk, sn⟩).toArray 49)) W := ((((Fr.refl No _).drew.alloc _).any _).trans HF3.out).step hFS fun k e => .inr (by have e : k = w.heap.size + 1 := e; rw [e, World.size_alloc]; exact Nat.le_refl _)
      have HXW := Lib.hid (HX.out.turnH (HH3.out.fr hFS fun k hk e => by have e : k = w.heap.size + 1 := e; subst e; exact HH3.out.no_msg _ _ _ HZ3.out hk) hF1 fun k hk => (HN3.out k hk).imp id fun h => by rw [World.size_alloc]; omega)
      have HMB : Hid (Blk W (w.heap.size + 1) 26 (Msg.vals (zeroMsg))) := Lib.hid (by subst hW; exact HZ3.out.set8 (zeroMsg))
      have HFW : Hid (Fr b.F w W) := Lib.hid ((((Fr.refl No w).alloc _).any _).trans (hF1.mono fun k _ h => .inl h))
      have HGP : Hid (¬ w.heap.size + 1 = b.p0) := Lib.hid (by have := HX.out.blk.lt; rw [World.size_alloc] at this; omega)
      clear hW hFS hF1 f0 f1 f2 f3 f4 f5 f6 f7 f8 f9 y0 y3 y4 yl HX HF3 HZ3 HZ2 HA2 HH3 HN3
      go_wp2
      refine bodyPost_end (v := .tuple #[]) (by simp [results, Try.results18, go_sem]) rfl ⟨{ b with hu := u3, hbs := bs3 }, ⟨_, rfl⟩, rfl, ?_, HFW.out⟩
      rw [HST.out]
      exact HXW.out
  · have k0 : (sk == 0) = false := by simp only at h; rw [h]; rfl
    have k1 : (sk == 1) = true := by simpa using h
    clear h
    go_enter Try.func18, Try.ntmps18
    go_wp2
    refine wp_region_b [(0, 0), (1, 0), (2, 0), (4, 0), (5, 0), (6, 0), (9, 0), (12, 0), (13, 0), (14, 0), (18, 0), (19, 0), (20, 0), (3, 1), (7, 1), (8, 0), (10, 1), (15, 1), (16, 0), (17, 0), (21, 1), (11, 1)] 22 3 26 2 [(23, 0), (24, 0), (25, 0), (26, 2), (27, 3), (28, 0)] [(22, 3), (23, 0), (24, 0), (25, 0), (27, 3), (28, 0)] (by kernel_rfl) (by kernel_rfl) ?_
    repeat (first
      | (apply wpO_pure rfl rfl; (focus (intro w'; go_simp; (try rfl); done)); try simp only [Act.put, List.setIfInBounds_toArray, List.set_cons_zero, List.set_cons_succ])
      | (apply wpO_read rfl rfl; (focus (intro w' hf' hs'; (try simp only [World.size_drew, World.cell?_drew, World.size_alloc, World.size_setCell] at hs'); go_simp; (try rfl); done)); try simp only [Act.put, List.setIfInBounds_toArray, List.set_cons_zero, List.set_cons_succ])
      | (apply wpO_skip (by decide) rfl rfl; try simp only [Act.put, List.setIfInBounds_toArray, List.set_cons_zero, List.set_cons_succ]))
    apply wpO_call (v := .int .i64 mins) 34 #[.int .i64 sn, .int .i64 12] rfl rfl
    (focus (intro w'; go_simp; (try rfl); done))
    (focus (intro w' hf'; exact count_same HC.out _ HO.out.1 HO.out.2 (by omega) (by omega)))
    try simp only [Act.put, List.setIfInBounds_toArray, List.set_cons_zero, List.set_cons_succ]
    refine br_both ?_ ?_
    · skip
      refine wpO_loud rfl fun K hK => ?_
      go_simp
      refine (lask_to B b p _ (HX.out.fr0 (by (repeat (first | exact Fr.refl _ _ | assumption | refine Fr.drew ?_ | refine Fr.drewL ?_ | refine Fr.alloc ?_ _)))).hub HI.out HM.out hKK hR mins hm0 hm1 HAR.out).mono ?_
      rintro e w3 ⟨u3, bs3, rfl, hH3, hF3, hN3⟩
      refine hK _ _ ?_
      clear hK K
      have HX3 := Lib.hid ((HX.out.fr0 (by (repeat (first | exact Fr.refl _ _ | assumption | refine Fr.drew ?_ | refine Fr.drewL ?_ | refine Fr.alloc ?_ _)))).turnH hH3 hF3 hN3)
      have HF3 : Hid (Fr b.F w w3) := Lib.hid ((((Fr.refl No w).alloc _).drew.any _).trans (hF3.mono fun k _ h => .inl h))
      clear hH3 hF3 hN3
      repeat (first
        | (apply wpO_pure rfl rfl; (focus (intro w'; go_simp; (try rfl); done)); try simp only [Act.put, List.setIfInBounds_toArray, List.set_cons_zero, List.set_cons_succ])
        | (apply wpO_read rfl rfl; (focus (intro w' hf' hs'; (try simp only [World.size_drew, World.cell?_drew, World.size_alloc, World.size_setCell] at hs'); go_simp; (try rfl); done)); try simp only [Act.put, List.setIfInBounds_toArray, List.set_cons_zero, List.set_cons_succ])
        | (apply wpO_skip (by decide) rfl rfl; try simp only [Act.put, List.setIfInBounds_toArray, List.set_cons_zero, List.set_cons_succ]))
      refine wpO_loudE rfl fun K hK => ?_
      go_simp
      refine hK _ _ ⟨by (repeat (first | exact Fr.refl _ _ | assumption | refine Fr.drew ?_ | refine Fr.drewL ?_ | refine Fr.alloc ?_ _)), ?_⟩
      clear hK K
      repeat (first
        | (apply wpO_pure rfl rfl; (focus (intro w'; go_simp; (try rfl); done)); try simp only [Act.put, List.setIfInBounds_toArray, List.set_cons_zero, List.set_cons_succ])
        | (apply wpO_read rfl rfl; (focus (intro w' hf' hs'; (try simp only [World.size_drew, World.cell?_drew, World.size_alloc, World.size_setCell] at hs'); go_simp; (try rfl); done)); try simp only [Act.put, List.setIfInBounds_toArray, List.set_cons_zero, List.set_cons_succ])
        | (apply wpO_skip (by decide) rfl rfl; try simp only [Act.put, List.setIfInBounds_toArray, List.set_cons_zero, List.set_cons_succ]))
      refine wpO_loud rfl fun K hK => ?_
      go_simp
      refine hK _ _ ?_
      clear hK K
      repeat (first
        | (apply wpO_pure rfl rfl; (focus (intro w'; go_simp; (try rfl); done)); try simp only [Act.put, List.setIfInBounds_toArray, List.set_cons_zero, List.set_cons_succ])
        | (apply wpO_read rfl rfl; (focus (intro w' hf' hs'; (try simp only [World.size_drew, World.cell?_drew, World.size_alloc, World.size_setCell] at hs'); go_simp; (try rfl); done)); try simp only [Act.put, List.setIfInBounds_toArray, List.set_cons_zero, List.set_cons_succ])
        | (apply wpO_skip (by decide) rfl rfl; try simp only [Act.put, List.setIfInBounds_toArray, List.set_cons_zero, List.set_cons_succ]))
      repeat (first
        | (apply wpO_pure rfl rfl; (focus (intro w'; go_simp; (try rfl); done)); try simp only [Act.put, List.setIfInBounds_toArray, List.set_cons_zero, List.set_cons_succ])
        | (apply wpO_read rfl rfl; (focus (intro w' hf' hs'; (try simp only [World.size_drew, World.cell?_drew, World.size_alloc, World.size_setCell] at hs'); go_simp; (try rfl); done)); try simp only [Act.put, List.setIfInBounds_toArray, List.set_cons_zero, List.set_cons_succ])
        | (apply wpO_skip (by decide) rfl rfl; try simp only [Act.put, List.setIfInBounds_toArray, List.set_cons_zero, List.set_cons_succ]))
      refine wpO_nil ?_
      generalize hW : World.alloc w3 _ = W
      have HXW := Lib.hid (HX3.out.fr0 (show Fr No w3 W by subst hW; exact (Fr.refl No w3).alloc _))
      have HMB : Hid (Blk W w3.heap.size 26 (Msg.vals (zeroMsg))) := Lib.hid (by subst hW; exact Blk.new w3 _ _)
      have HFW : Hid (Fr b.F w W) := Lib.hid (by subst hW; exact HF3.out.alloc _)
      have HGP : Hid (¬ w3.heap.size = b.p0) := Lib.hid (by have := HX3.out.blk.lt; intro e; have e2 : b.p0 < w3.heap.size := this; omega)
      clear hW y0 y3 y4 yl HX HX3 HF3
      go_wp2
      refine bodyPost_end (v := .tuple #[]) (by simp [results, Try.results18, go_sem]) rfl ⟨{ b with hu := u3, hbs := bs3 }, ⟨_, rfl⟩, rfl, ?_, HFW.out⟩
      rw [HST.out]
      exact HXW.out
    · skip
      refine wpO_loudE rfl fun K hK => ?_
      go_simp
      refine hK _ _ ⟨by (repeat (first | exact Fr.refl _ _ | assumption | refine Fr.drew ?_ | refine Fr.drewL ?_ | refine Fr.alloc ?_ _)), ?_⟩
      clear hK K
      repeat (first
        | (apply wpO_pure rfl rfl; (focus (intro w'; go_simp; (try rfl); done)); try simp only [Act.put, List.setIfInBounds_toArray, List.set_cons_zero, List.set_cons_succ])
        | (apply wpO_read rfl rfl; (focus (intro w' hf' hs'; (try simp only [World.size_drew, World.cell?_drew, World.size_alloc, World.size_setCell] at hs'); go_simp; (try rfl); done)); try simp only [Act.put, List.setIfInBounds_toArray, List.set_cons_zero, List.set_cons_succ])
        | (apply wpO_skip (by decide) rfl rfl; try simp only [Act.put, List.setIfInBounds_toArray, List.set_cons_zero, List.set_cons_succ]))
      have HA2 := Lib.hid (HX.out.fr0 (((Fr.refl No _).drew).alloc (Obj.cells zeroMsg.vals.toArray 26)))
      have HZ2 := Lib.hid (Blk.new (w.alloc (Obj.cells (AStep.vals ⟨sk, sn⟩).toArray 49)).drew 26 zeroMsg.vals)
      refine wpO_loud rfl fun K hK => ?_
      go_simp
      refine (lask_to B b p _ HA2.out.hub HI.out HM.out hKK hR mins hm0 hm1 HAR.out).mono ?_
      rintro e w3 ⟨u3, bs3, rfl, hH3, hF3, hN3⟩
      refine hK _ _ ?_
      clear hK K
      have hZ3 := HZ2.out.fr hF3 (fun e => HA2.out.hub.no_msg _ _ _ HZ2.out e)
      simp only [World.size_drew, World.size_alloc] at hZ3 hN3
      have HZ3 := Lib.hid hZ3
      obtain ⟨f0, f1, f2, f3, f4, f5, f6, f7⟩ := HZ3.out.cells8
      have f8 := HZ3.out.lt
      have f9 := HZ3.out.frozens
      have HF3 := Lib.hid hF3
      have HH3 := Lib.hid hH3
      have HN3 := Lib.hid hN3
      clear hF3 hH3 hN3 hZ3
      repeat (first
        | (apply wpO_pure rfl rfl; (focus (intro w'; go_simp; (try rfl); done)); try simp only [Act.put, List.setIfInBounds_toArray, List.set_cons_zero, List.set_cons_succ])
        | (apply wpO_read rfl rfl; (focus (intro w' hf' hs'; (try simp only [World.size_drew, World.cell?_drew, World.size_alloc, World.size_setCell] at hs'); go_simp; (try rfl); done)); try simp only [Act.put, List.setIfInBounds_toArray, List.set_cons_zero, List.set_cons_succ])
        | (apply wpO_skip (by decide) rfl rfl; try simp only [Act.put, List.setIfInBounds_toArray, List.set_cons_zero, List.set_cons_succ]))
      refine wpO_loud rfl fun K hK => ?_
      go_simp
      refine hK _ _ ?_
      clear hK K
      repeat (first
        | (apply wpO_pure rfl rfl; (focus (intro w'; go_simp; (try rfl); done)); try simp only [Act.put, List.setIfInBounds_toArray, List.set_cons_zero, List.set_cons_succ])
        | (apply wpO_read rfl rfl; (focus (intro w' hf' hs'; (try simp only [World.size_drew, World.cell?_drew, World.size_alloc, World.size_setCell] at hs'); go_simp; (try rfl); done)); try simp only [Act.put, List.setIfInBounds_toArray, List.set_cons_zero, List.set_cons_succ])
        | (apply wpO_skip (by decide) rfl rfl; try simp only [Act.put, List.setIfInBounds_toArray, List.set_cons_zero, List.set_cons_succ]))
      repeat (first
        | (apply wpO_pure rfl rfl; (focus (intro w'; go_simp; (try rfl); done)); try simp only [Act.put, List.setIfInBounds_toArray, List.set_cons_zero, List.set_cons_succ])
        | (apply wpO_read rfl rfl; (focus (intro w' hf' hs'; (try simp only [World.size_drew, World.cell?_drew, World.size_alloc, World.size_setCell] at hs'); go_simp; (try rfl); done)); try simp only [Act.put, List.setIfInBounds_toArray, List.set_cons_zero, List.set_cons_succ])
        | (apply wpO_skip (by decide) rfl rfl; try simp only [Act.put, List.setIfInBounds_toArray, List.set_cons_zero, List.set_cons_succ]))
      refine wpO_nil ?_
      generalize hW : World.setCell _ _ _ = W
      have hFS : Fr (fun k => k = w.heap.size + 1) w3 W := by subst hW; exact fr_set8 (S := fun k => k = w.heap.size + 1) (x := (zeroMsg)) rfl
      have hF1 : Fr b.H (w.alloc (Obj.cells (AStep.vals ⟨sk, sn⟩).toArray 49)) W := ((((Fr.refl No _).drew.alloc _).any _).trans HF3.out).step hFS fun k e => .inr (by have e : k = w.heap.size + 1 := e; rw [e, World.size_alloc]; exact Nat.le_refl _)
      have HXW := Lib.hid (HX.out.turnH (HH3.out.fr hFS fun k hk e => by have e : k = w.heap.size + 1 := e; subst e; exact HH3.out.no_msg _ _ _ HZ3.out hk) hF1 fun k hk => (HN3.out k hk).imp id fun h => by rw [World.size_alloc]; omega)
      have HMB : Hid (Blk W (w.heap.size + 1) 26 (Msg.vals (zeroMsg))) := Lib.hid (by subst hW; exact HZ3.out.set8 (zeroMsg))
      have HFW : Hid (Fr b.F w W) := Lib.hid ((((Fr.refl No w).alloc _).any _).trans (hF1.mono fun k _ h => .inl h))
      have HGP : Hid (¬ w.heap.size + 1 = b.p0) := Lib.hid (by have := HX.out.blk.lt; rw [World.size_alloc] at this; omega)
      clear hW hFS hF1 f0 f1 f2 f3 f4 f5 f6 f7 f8 f9 y0 y3 y4 yl HX HF3 HZ3 HZ2 HA2 HH3 HN3
      go_wp2
      refine bodyPost_end (v := .tuple #[]) (by simp [results, Try.results18, go_sem]) rfl ⟨{ b with hu := u3, hbs := bs3 }, ⟨_, rfl⟩, rfl, ?_, HFW.out⟩
      rw [HST.out]
      exact HXW.out
end Go.Proofs.Ytohnchkoldbpcaa

/- agent, the law: step, a run is asked: there is room. -/
namespace Go.Proofs.Ytohnchkoldbpcaa
open Go Go.RowKit Go.Proofs

theorem int1_info : (Try.prog.info? 3).map (fun i => (i.zero, i.size, i.bytes)) = some (some (.int .i64 0), 1, 8) := by kernel_rfl
set_option maxRecDepth 100000 in
set_option maxHeartbeats 4000000 in
theorem lstep_ask_ok (B : Nat) (b : PlB) (p : PlayS) (w : World) (X : PlAt B w b p) (I : Inv p) {K : Int} {R : Nat} (M : NumB K R p) (hKK : K ≤ 1000000) (hR : R ≤ 1000000) (s : AStep) (ho : s.Ok) (hk : s.kind = 0 ∨ s.kind = 1) (hroom : p.h.l.length - p.h.frm < 64) :
    Calls Try.prog 18 #[.pointer (some ⟨b.p0, 0, none⟩), s.val] w fun e w' => StepOut B w w' b (stepS p s) e := by
  obtain ⟨i0, hi0, hz0, hz1, hz2⟩ := info_parts i64_info
  obtain ⟨j0, hj0, jz0, jz1, jz2⟩ := info_parts int1_info
  have HX := Lib.hid (X.fr0 ((Fr.refl No w).alloc (Obj.cells s.vals.toArray 49)))
  have HI := Lib.hid I
  have HM := Lib.hid M
  have HO := Lib.hid ho
  have HSB := Lib.hid (Blk.new w 49 s.vals)
  have y0 := X.blk.cell 0
  have y3 := X.blk.cell 3
  have y4 := X.blk.cell 4
  have yl := X.blk.lt
  simp only [List.getElem?_cons_zero, List.getElem?_cons_succ] at y0 y3 y4
  have hmr := countI_range s.n 12 (by omega)
  obtain ⟨mins, hmm⟩ : ∃ mins, countI s.n 12 = mins := ⟨_, rfl⟩
  rw [hmm] at hmr
  have HC := Lib.hid hmm
  have hm0 : 0 ≤ mins := hmr.1
  have hm1 : mins ≤ 11 := by omega
  have hrw : IntKind.i64.wrap (p.run + 1) = p.run + 1 := IntWalk.i64_in _ (by have := I.h.run; have := M.hl; omega)
  have hrun0 : 0 ≤ p.run := by have := I.h.run; omega
  have HAR := Lib.hid (show askR p mins = (p.h.add (newR p mins), startM (p.h.add (newR p mins)) (newR p mins), 0) by unfold askR; rw [if_pos hroom])
  have HST : Hid (stepS p s = { p with h := p.h.add (newR p mins), run := p.run + 1, ends := p.ends ++ [-1], seen := p.seen ++ [0], n := sendsL [startM (p.h.add (newR p mins)) (newR p mins)] p.n }) := Lib.hid (by
    unfold stepS
    rw [if_pos hk, hmm]
    unfold askS
    rw [askE_eq I M hKK hR hm0 hm1]
    unfold askR
    rw [if_pos hroom]
    rfl)
  clear X I M ho hmm hroom
  obtain ⟨sk, sn⟩ := s
  rcases hk with h | h
  · have k0 : (sk == 0) = true := by simpa using h
    clear h
    go_enter Try.func18, Try.ntmps18
    go_wp2
    refine wp_region_b [(0, 0), (1, 0), (2, 0), (4, 0), (5, 0), (6, 0), (9, 0), (12, 0), (13, 0), (14, 0), (18, 0), (19, 0), (20, 0), (3, 1), (7, 1), (8, 0), (10, 1), (15, 1), (16, 0), (17, 0), (21, 1), (11, 1)] 22 3 26 2 [(23, 0), (24, 0), (25, 0), (26, 2), (27, 3), (28, 0)] [(22, 3), (23, 0), (24, 0), (25, 0), (27, 3), (28, 0)] (by kernel_rfl) (by kernel_rfl) ?_
    repeat (first
      | (apply wpO_pure rfl rfl; (focus (intro w'; go_simp; (try rfl); done)); try simp only [Act.put, List.setIfInBounds_toArray, List.set_cons_zero, List.set_cons_succ])
      | (apply wpO_read rfl rfl; (focus (intro w' hf' hs'; (try simp only [World.size_drew, World.cell?_drew, World.size_alloc, World.size_setCell] at hs'); go_simp; (try rfl); done)); try simp only [Act.put, List.setIfInBounds_toArray, List.set_cons_zero, List.set_cons_succ])
      | (apply wpO_skip (by decide) rfl rfl; try simp only [Act.put, List.setIfInBounds_toArray, List.set_cons_zero, List.set_cons_succ]))
    apply wpO_call (v := .int .i64 mins) 34 #[.int .i64 sn, .int .i64 12] rfl rfl
    (focus (intro w'; go_simp; (try rfl); done))
    (focus (intro w' hf'; exact count_same HC.out _ HO.out.1 HO.out.2 (by omega) (by omega)))
    try simp only [Act.put, List.setIfInBounds_toArray, List.set_cons_zero, List.set_cons_succ]
    refine br_both ?_ ?_
    · skip
      refine wpO_loud rfl fun K hK => ?_
      go_simp
      refine (lask_to B b p _ (HX.out.fr0 (by (repeat (first | exact Fr.refl _ _ | assumption | refine Fr.drew ?_ | refine Fr.drewL ?_ | refine Fr.alloc ?_ _)))).hub HI.out HM.out hKK hR mins hm0 hm1 HAR.out).mono ?_
      rintro e w3 ⟨u3, bs3, rfl, hH3, hF3, hN3⟩
      refine hK _ _ ?_
      clear hK K
      have HX3 := Lib.hid ((HX.out.fr0 (by (repeat (first | exact Fr.refl _ _ | assumption | refine Fr.drew ?_ | refine Fr.drewL ?_ | refine Fr.alloc ?_ _)))).turnH hH3 hF3 hN3)
      have HF3 : Hid (Fr b.F w w3) := Lib.hid ((((Fr.refl No w).alloc _).drew.any _).trans (hF3.mono fun k _ h => .inl h))
      clear hH3 hF3 hN3
      repeat (first
        | (apply wpO_pure rfl rfl; (focus (intro w'; go_simp; (try rfl); done)); try simp only [Act.put, List.setIfInBounds_toArray, List.set_cons_zero, List.set_cons_succ])
        | (apply wpO_read rfl rfl; (focus (intro w' hf' hs'; (try simp only [World.size_drew, World.cell?_drew, World.size_alloc, World.size_setCell] at hs'); go_simp; (try rfl); done)); try simp only [Act.put, List.setIfInBounds_toArray, List.set_cons_zero, List.set_cons_succ])
        | (apply wpO_skip (by decide) rfl rfl; try simp only [Act.put, List.setIfInBounds_toArray, List.set_cons_zero, List.set_cons_succ]))
      refine wpO_loudE rfl fun K hK => ?_
      go_simp
      refine hK _ _ ⟨by (repeat (first | exact Fr.refl _ _ | assumption | refine Fr.drew ?_ | refine Fr.drewL ?_ | refine Fr.alloc ?_ _)), ?_⟩
      clear hK K
      repeat (first
        | (apply wpO_pure rfl rfl; (focus (intro w'; go_simp; (try rfl); done)); try simp only [Act.put, List.setIfInBounds_toArray, List.set_cons_zero, List.set_cons_succ])
        | (apply wpO_read rfl rfl; (focus (intro w' hf' hs'; (try simp only [World.size_drew, World.cell?_drew, World.size_alloc, World.size_setCell] at hs'); go_simp; (try rfl); done)); try simp only [Act.put, List.setIfInBounds_toArray, List.set_cons_zero, List.set_cons_succ])
        | (apply wpO_skip (by decide) rfl rfl; try simp only [Act.put, List.setIfInBounds_toArray, List.set_cons_zero, List.set_cons_succ]))
      refine wpO_loud rfl fun K hK => ?_
      go_simp
      refine hK _ _ ?_
      clear hK K
      repeat (first
        | (apply wpO_pure rfl rfl; (focus (intro w'; go_simp; (try rfl); done)); try simp only [Act.put, List.setIfInBounds_toArray, List.set_cons_zero, List.set_cons_succ])
        | (apply wpO_read rfl rfl; (focus (intro w' hf' hs'; (try simp only [World.size_drew, World.cell?_drew, World.size_alloc, World.size_setCell] at hs'); go_simp; (try rfl); done)); try simp only [Act.put, List.setIfInBounds_toArray, List.set_cons_zero, List.set_cons_succ])
        | (apply wpO_skip (by decide) rfl rfl; try simp only [Act.put, List.setIfInBounds_toArray, List.set_cons_zero, List.set_cons_succ]))
      repeat (first
        | (apply wpO_pure rfl rfl; (focus (intro w'; go_simp; (try rfl); done)); try simp only [Act.put, List.setIfInBounds_toArray, List.set_cons_zero, List.set_cons_succ])
        | (apply wpO_read rfl rfl; (focus (intro w' hf' hs'; (try simp only [World.size_drew, World.cell?_drew, World.size_alloc, World.size_setCell] at hs'); go_simp; (try rfl); done)); try simp only [Act.put, List.setIfInBounds_toArray, List.set_cons_zero, List.set_cons_succ])
        | (apply wpO_skip (by decide) rfl rfl; try simp only [Act.put, List.setIfInBounds_toArray, List.set_cons_zero, List.set_cons_succ]))
      refine wpO_nil ?_
      generalize hW : World.alloc w3 _ = W
      have HXW := Lib.hid (HX3.out.fr0 (show Fr No w3 W by subst hW; exact (Fr.refl No w3).alloc _))
      have HMB : Hid (Blk W w3.heap.size 26 (Msg.vals (startM (p.h.add (newR p mins)) (newR p mins)))) := Lib.hid (by subst hW; exact Blk.new w3 _ _)
      have HFW : Hid (Fr b.F w W) := Lib.hid (by subst hW; exact HF3.out.alloc _)
      have HGP : Hid (¬ w3.heap.size = b.p0) := Lib.hid (by have := HX3.out.blk.lt; intro e; have e2 : b.p0 < w3.heap.size := this; omega)
      clear hW y0 y3 y4 yl HX HX3 HF3
      have y4 := HXW.out.blk.cell 4
      have y5 := HXW.out.blk.cell 5
      have y6 := HXW.out.blk.cell 6
      have yl := HXW.out.blk.lt
      have yz := HXW.out.blk.frozens
      simp only [List.getElem?_cons_zero, List.getElem?_cons_succ] at y4 y5 y6
      have hX4 : PlAt B (W.setCell ⟨b.p0, 4, none⟩ (.int .i64 (p.run + 1))) { b with hu := u3, hbs := bs3 } { p with h := p.h.add (newR p mins), run := p.run + 1 } := HXW.out.setOne rfl rfl rfl rfl rfl rfl
      obtain ⟨Av, cv, hve, hcv⟩ := own_shape hX4.ends
      have hve : b.ve = .slice Av p.ends.length cv := hve
      obtain ⟨As, cs, hvs, hcs⟩ := own_shape hX4.seen
      have hvs : b.vs = .slice As p.seen.length cs := hvs
      rw [show PlB.ve { b with hu := u3, hbs := bs3 } = b.ve from rfl, hve] at y5
      rw [show PlB.vs { b with hu := u3, hbs := bs3 } = b.vs from rfl, hvs] at y6
      have HX4 := Lib.hid hX4
      have HVE := Lib.hid hve
      have HVS := Lib.hid hvs
      have hX5 := hX4.fr0 ((Fr.refl No _).alloc (Obj.cells #[.int .i64 (-1)] 2))
      have HX5 := Lib.hid hX5
      have HE5 : Hid (World.ownsRow ((W.setCell ⟨b.p0, 4, none⟩ (.int .i64 (p.run + 1))).alloc (Obj.cells #[.int .i64 (-1)] 2)) B 2 1 (.slice Av p.ends.length cv) p.ends.length (encN p.ends)) := Lib.hid (by rw [← hve]; exact hX5.ends)
      have HL5 : Hid (Sl ((W.setCell ⟨b.p0, 4, none⟩ (.int .i64 (p.run + 1))).alloc (Obj.cells #[.int .i64 (-1)] 2)) 2 1 (some ⟨W.heap.size, 0, none⟩) 1 [.int .i64 (-1)]) := Lib.hid (by have h := Sl.of_new (W.setCell ⟨b.p0, 4, none⟩ (.int .i64 (p.run + 1))) 2 1 1 #[.int .i64 (-1)] [.int .i64 (-1)] rfl rfl; rw [World.size_setCell] at h; exact h)
      have HSZ := Lib.hid HXW.out.size
      have HF5 : Hid (Fr b.F w ((W.setCell ⟨b.p0, 4, none⟩ (.int .i64 (p.run + 1))).alloc (Obj.cells #[.int .i64 (-1)] 2))) := Lib.hid ((HFW.out.trans ((frP (b := b) W).mono fun k _ h => .inr (.inr (.inr h)))).alloc _)
      have HM5 := Lib.hid (((HMB.out.far (p := ⟨b.p0, 4, none⟩) HGP.out (.int .i64 (p.run + 1))).alloc (Obj.cells #[.int .i64 (-1)] 2)))
      have HLN := Lib.hid (show p.ends.length ≤ 1000000 ∧ p.seen.length ≤ 1000000 by have := HI.out.h.ends; have := HI.out.h.seenL; have := HM.out.hl; omega)
      clear hX4 hve hvs hX5 HMB
      go_wp2_with (at_builtin; apply stopHere)
      unfold StopHere
      go_loud (refine wpList_append_owned' (by rfl) (.tmp 60) (.tmp 61) 51 (by rfl) B 2 i0 _ 1 8 Try.underlying51 hi0 hz0 hz1 hz2 rfl (by omega) (.slice Av p.ends.length cv) p.ends.length (encN p.ends) (by rfl) HE5.out (some ⟨W.heap.size, 0, none⟩) 1 1 2 [.int .i64 (-1)] (by rfl) HL5.out (by simp [Value.oneCell']) (by have := HLN.out.1; simp only [maxLen]; omega) (by have := HLN.out.1; omega) (by have := HSZ.out; simp only [World.size_alloc, World.size_setCell]; omega) ?_)
      intro v6 w6 ho6 hg6 hat6
      obtain ⟨A6, c6, rfl, _⟩ := own_shape ho6
      obtain ⟨hX6, hF6⟩ := HX5.out.growEnds (x := -1) ho6 (by rw [show PlB.ve { b with hu := u3, hbs := bs3 } = b.ve from rfl, HVE.out]; exact hg6) (by rw [show PlB.ve { b with hu := u3, hbs := bs3 } = b.ve from rfl, HVE.out]; exact hat6)
      have hpe : Fr (fun k => some k = b.ve.ownBlock) ((W.setCell ⟨b.p0, 4, none⟩ (.int .i64 (p.run + 1))).alloc (Obj.cells #[.int .i64 (-1)] 2)) w6 := by rw [HVE.out]; exact Fr.of_grown hg6
      have hp6 := HX5.out.blk.fr hpe (fun e => HX5.out.ve_p0 e.symm rfl)
      have a5 := hp6.cell 5
      have a6 := hp6.cell 6
      have al := hp6.lt
      have az := hp6.frozens
      simp only [List.getElem?_cons_zero, List.getElem?_cons_succ] at a5 a6
      rw [show PlB.vs { b with hu := u3, hbs := bs3 } = b.vs from rfl, HVS.out] at a6
      rw [show PlB.ve { b with hu := u3, hbs := bs3 } = b.ve from rfl, HVE.out] at a5
      have HX6 := Lib.hid hX6
      have HAT6 := Lib.hid hat6
      have HF6 := Lib.hid (HF5.out.trans (hF6.mono fun k _ h => .inr (.inr (.inr h))))
      have hM6 := HM5.out.fr hF6 (fun e => HX5.out.no_msgP _ _ _ HM5.out e)
      have hX7 := hX6.fr0 ((Fr.refl No _).alloc (Obj.cells #[.int .i64 0] 3))
      have HX7 := Lib.hid hX7
      have HS7 : Hid (World.ownsRow ((w6.setCell ⟨b.p0, 5, none⟩ (.slice A6 (p.ends.length + 1) c6)).alloc (Obj.cells #[.int .i64 0] 3)) B 3 1 (.slice As p.seen.length cs) p.seen.length (encN p.seen)) := Lib.hid (by rw [← HVS.out]; exact hX7.seen)
      have HL7 : Hid (Sl ((w6.setCell ⟨b.p0, 5, none⟩ (.slice A6 (p.ends.length + 1) c6)).alloc (Obj.cells #[.int .i64 0] 3)) 3 1 (some ⟨w6.heap.size, 0, none⟩) 1 [.int .i64 0]) := Lib.hid (by have h := Sl.of_new (w6.setCell ⟨b.p0, 5, none⟩ (.slice A6 (p.ends.length + 1) c6)) 3 1 1 #[.int .i64 0] [.int .i64 0] rfl rfl; rw [World.size_setCell] at h; exact h)
      have HM7 := Lib.hid (hM6.alloc (Obj.cells #[.int .i64 0] 3))
      have HF7 := Lib.hid (HF6.out.alloc (Obj.cells #[.int .i64 0] 3))
      clear hX6 hF6 hpe hp6 hM6 hX7 ho6 hg6 hat6
      go_wp2_with (at_builtin; apply stopHere)
      unfold StopHere
      go_loud (refine wpList_append_owned' (by rfl) (.tmp 69) (.tmp 70) 52 (by rfl) B 3 j0 _ 1 8 Try.underlying52 hj0 jz0 jz1 jz2 rfl (by omega) (.slice As p.seen.length cs) p.seen.length (encN p.seen) (by rfl) HS7.out (some ⟨w6.heap.size, 0, none⟩) 1 1 3 [.int .i64 0] (by rfl) HL7.out (by simp [Value.oneCell']) (by have := HLN.out.2; simp only [maxLen]; omega) (by have := HLN.out.2; omega) (by have := HX7.out.size; simp only [World.size_alloc, World.size_setCell] at this ⊢; omega) ?_)
      intro v8 w8 ho8 hg8 hat8
      obtain ⟨A8, c8, rfl, _⟩ := own_shape ho8
      obtain ⟨hX8, hF8⟩ := HX7.out.growSeen (x := 0) ho8 (by rw [show PlB.vs { ({ b with hu := u3, hbs := bs3 } : PlB) with ve := .slice A6 (p.ends.length + 1) c6 } = b.vs from rfl, HVS.out]; exact hg8) (by rw [show PlB.vs { ({ b with hu := u3, hbs := bs3 } : PlB) with ve := .slice A6 (p.ends.length + 1) c6 } = b.vs from rfl, HVS.out]; exact hat8)
      have hps : Fr (fun k => some k = b.vs.ownBlock) ((w6.setCell ⟨b.p0, 5, none⟩ (.slice A6 (p.ends.length + 1) c6)).alloc (Obj.cells #[.int .i64 0] 3)) w8 := by rw [HVS.out]; exact Fr.of_grown hg8
      have hp8 := HX7.out.blk.fr hps (fun e => HX7.out.vs_p0 e.symm rfl)
      have s6 := hp8.cell 6
      have sl := hp8.lt
      have sz := hp8.frozens
      simp only [List.getElem?_cons_zero, List.getElem?_cons_succ] at s6
      have HX8 := Lib.hid hX8
      have HF8 := Lib.hid (HF7.out.step hF8 (fun k hk => by
        rcases hk with h | h | h
        · exact .inl (.inr (.inr (.inr (.inl h))))
        · have h : (Value.slice A6 (p.ends.length + 1) c6).ownBlock = some k := h
          rcases HAT6.out with e | e
          · rw [h] at e
            exact .inl (.inr (.inr (.inr (.inr (.inl (by rw [HVE.out]; exact e.symm))))))
          · rw [h] at e
            injection e with e
            have := HF5.out.size
            exact .inr (by omega)
        · exact .inl (.inr (.inr (.inr (.inr (.inr h)))))))
      have hM8 := HM7.out.fr hps (fun e => HX7.out.no_msgP _ _ _ HM7.out (.inr (.inr e.symm)))
      obtain ⟨q0, q1, q2, q3, q4, q5, q6, q7⟩ := hM8.cells8
      have q8 := hM8.lt
      have q9 := hM8.frozens
      have ngp := HGP.out
      have ngp' : ¬ b.p0 = w3.heap.size := fun e => ngp e.symm
      have HX9 := Lib.hid (HX8.out.fr0 ((Fr.refl No _).alloc (Obj.cells (startM (p.h.add (newR p mins)) (newR p mins)).vals.toArray 26)))
      have HL9 : Hid (Sl ((w8.setCell ⟨b.p0, 6, none⟩ (.slice A8 (p.seen.length + 1) c8)).alloc (Obj.cells (startM (p.h.add (newR p mins)) (newR p mins)).vals.toArray 26)) 26 8 (some ⟨w8.heap.size, 0, none⟩) 1 (startM (p.h.add (newR p mins)) (newR p mins)).vals) := Lib.hid (by have h := Sl.of_new (w8.setCell ⟨b.p0, 6, none⟩ (.slice A8 (p.seen.length + 1) c8)) 26 8 1 (startM (p.h.add (newR p mins)) (newR p mins)).vals.toArray (startM (p.h.add (newR p mins)) (newR p mins)).vals rfl rfl; rw [World.size_setCell] at h; exact h)
      clear hX8 hF8 hps hp8 hM8 ho8 hg8 hat8
      go_wp2_with (go_at_call 35; apply stopHere)
      unfold StopHere
      refine (lsend_any B _ _ (some ⟨w8.heap.size, 0, none⟩) 1 [startM (p.h.add (newR p mins)) (newR p mins)] _ HX9.out HL9.out (by simp)).mono ?_
      rintro e w10 ⟨⟨v10, rfl⟩, hX10, hF10⟩
      go_wp2_with (go_at_call 35; apply stopHere)
      refine bodyPost_end (v := .tuple #[]) (by simp [results, Try.results18, go_sem]) rfl ⟨{ b with hu := u3, hbs := bs3, ve := .slice A6 (p.ends.length + 1) c6, vs := .slice A8 (p.seen.length + 1) c8 }, ⟨_, rfl⟩, rfl, ?_, (HF8.out.alloc _).trans (hF10.mono fun k _ h => .inr (.inr (.inl (.inl h))))⟩
      rw [HST.out]
      exact hX10
    · skip
      refine wpO_loudE rfl fun K hK => ?_
      go_simp
      refine hK _ _ ⟨by (repeat (first | exact Fr.refl _ _ | assumption | refine Fr.drew ?_ | refine Fr.drewL ?_ | refine Fr.alloc ?_ _)), ?_⟩
      clear hK K
      repeat (first
        | (apply wpO_pure rfl rfl; (focus (intro w'; go_simp; (try rfl); done)); try simp only [Act.put, List.setIfInBounds_toArray, List.set_cons_zero, List.set_cons_succ])
        | (apply wpO_read rfl rfl; (focus (intro w' hf' hs'; (try simp only [World.size_drew, World.cell?_drew, World.size_alloc, World.size_setCell] at hs'); go_simp; (try rfl); done)); try simp only [Act.put, List.setIfInBounds_toArray, List.set_cons_zero, List.set_cons_succ])
        | (apply wpO_skip (by decide) rfl rfl; try simp only [Act.put, List.setIfInBounds_toArray, List.set_cons_zero, List.set_cons_succ]))
      have HA2 := Lib.hid (HX.out.fr0 (((Fr.refl No _).drew).alloc (Obj.cells zeroMsg.vals.toArray 26)))
      have HZ2 := Lib.hid (Blk.new (w.alloc (Obj.cells (AStep.vals ⟨sk, sn⟩).toArray 49)).drew 26 zeroMsg.vals)
      refine wpO_loud rfl fun K hK => ?_
      go_simp
      refine (lask_to B b p _ HA2.out.hub HI.out HM.out hKK hR mins hm0 hm1 HAR.out).mono ?_
      rintro e w3 ⟨u3, bs3, rfl, hH3, hF3, hN3⟩
      refine hK _ _ ?_
      clear hK K
      have hZ3 := HZ2.out.fr hF3 (fun e => HA2.out.hub.no_msg _ _ _ HZ2.out e)
      simp only [World.size_drew, World.size_alloc] at hZ3 hN3
      have HZ3 := Lib.hid hZ3
      obtain ⟨f0, f1, f2, f3, f4, f5, f6, f7⟩ := HZ3.out.cells8
      have f8 := HZ3.out.lt
      have f9 := HZ3.out.frozens
      have HF3 := Lib.hid hF3
      have HH3 := Lib.hid hH3
      have HN3 := Lib.hid hN3
      clear hF3 hH3 hN3 hZ3
      repeat (first
        | (apply wpO_pure rfl rfl; (focus (intro w'; go_simp; (try rfl); done)); try simp only [Act.put, List.setIfInBounds_toArray, List.set_cons_zero, List.set_cons_succ])
        | (apply wpO_read rfl rfl; (focus (intro w' hf' hs'; (try simp only [World.size_drew, World.cell?_drew, World.size_alloc, World.size_setCell] at hs'); go_simp; (try rfl); done)); try simp only [Act.put, List.setIfInBounds_toArray, List.set_cons_zero, List.set_cons_succ])
        | (apply wpO_skip (by decide) rfl rfl; try simp only [Act.put, List.setIfInBounds_toArray, List.set_cons_zero, List.set_cons_succ]))
      refine wpO_loud rfl fun K hK => ?_
      go_simp
      refine hK _ _ ?_
      clear hK K
      repeat (first
        | (apply wpO_pure rfl rfl; (focus (intro w'; go_simp; (try rfl); done)); try simp only [Act.put, List.setIfInBounds_toArray, List.set_cons_zero, List.set_cons_succ])
        | (apply wpO_read rfl rfl; (focus (intro w' hf' hs'; (try simp only [World.size_drew, World.cell?_drew, World.size_alloc, World.size_setCell] at hs'); go_simp; (try rfl); done)); try simp only [Act.put, List.setIfInBounds_toArray, List.set_cons_zero, List.set_cons_succ])
        | (apply wpO_skip (by decide) rfl rfl; try simp only [Act.put, List.setIfInBounds_toArray, List.set_cons_zero, List.set_cons_succ]))
      repeat (first
        | (apply wpO_pure rfl rfl; (focus (intro w'; go_simp; (try rfl); done)); try simp only [Act.put, List.setIfInBounds_toArray, List.set_cons_zero, List.set_cons_succ])
        | (apply wpO_read rfl rfl; (focus (intro w' hf' hs'; (try simp only [World.size_drew, World.cell?_drew, World.size_alloc, World.size_setCell] at hs'); go_simp; (try rfl); done)); try simp only [Act.put, List.setIfInBounds_toArray, List.set_cons_zero, List.set_cons_succ])
        | (apply wpO_skip (by decide) rfl rfl; try simp only [Act.put, List.setIfInBounds_toArray, List.set_cons_zero, List.set_cons_succ]))
      refine wpO_nil ?_
      generalize hW : World.setCell _ _ _ = W
      have hFS : Fr (fun k => k = w.heap.size + 1) w3 W := by subst hW; exact fr_set8 (S := fun k => k = w.heap.size + 1) (x := (startM (p.h.add (newR p mins)) (newR p mins))) rfl
      have hF1 : Fr b.H (w.alloc (Obj.cells (AStep.vals ⟨sk, sn⟩).toArray 49)) W := ((((Fr.refl No _).drew.alloc _).any _).trans HF3.out).step hFS fun k e => .inr (by have e : k = w.heap.size + 1 := e; rw [e, World.size_alloc]; exact Nat.le_refl _)
      have HXW := Lib.hid (HX.out.turnH (HH3.out.fr hFS fun k hk e => by have e : k = w.heap.size + 1 := e; subst e; exact HH3.out.no_msg _ _ _ HZ3.out hk) hF1 fun k hk => (HN3.out k hk).imp id fun h => by rw [World.size_alloc]; omega)
      have HMB : Hid (Blk W (w.heap.size + 1) 26 (Msg.vals (startM (p.h.add (newR p mins)) (newR p mins)))) := Lib.hid (by subst hW; exact HZ3.out.set8 (startM (p.h.add (newR p mins)) (newR p mins)))
      have HFW : Hid (Fr b.F w W) := Lib.hid ((((Fr.refl No w).alloc _).any _).trans (hF1.mono fun k _ h => .inl h))
      have HGP : Hid (¬ w.heap.size + 1 = b.p0) := Lib.hid (by have := HX.out.blk.lt; rw [World.size_alloc] at this; omega)
      clear hW hFS hF1 f0 f1 f2 f3 f4 f5 f6 f7 f8 f9 y0 y3 y4 yl HX HF3 HZ3 HZ2 HA2 HH3 HN3
      have y4 := HXW.out.blk.cell 4
      have y5 := HXW.out.blk.cell 5
      have y6 := HXW.out.blk.cell 6
      have yl := HXW.out.blk.lt
      have yz := HXW.out.blk.frozens
      simp only [List.getElem?_cons_zero, List.getElem?_cons_succ] at y4 y5 y6
      have hX4 : PlAt B (W.setCell ⟨b.p0, 4, none⟩ (.int .i64 (p.run + 1))) { b with hu := u3, hbs := bs3 } { p with h := p.h.add (newR p mins), run := p.run + 1 } := HXW.out.setOne rfl rfl rfl rfl rfl rfl
      obtain ⟨Av, cv, hve, hcv⟩ := own_shape hX4.ends
      have hve : b.ve = .slice Av p.ends.length cv := hve
      obtain ⟨As, cs, hvs, hcs⟩ := own_shape hX4.seen
      have hvs : b.vs = .slice As p.seen.length cs := hvs
      rw [show PlB.ve { b with hu := u3, hbs := bs3 } = b.ve from rfl, hve] at y5
      rw [show PlB.vs { b with hu := u3, hbs := bs3 } = b.vs from rfl, hvs] at y6
      have HX4 := Lib.hid hX4
      have HVE := Lib.hid hve
      have HVS := Lib.hid hvs
      have hX5 := hX4.fr0 ((Fr.refl No _).alloc (Obj.cells #[.int .i64 (-1)] 2))
      have HX5 := Lib.hid hX5
      have HE5 : Hid (World.ownsRow ((W.setCell ⟨b.p0, 4, none⟩ (.int .i64 (p.run + 1))).alloc (Obj.cells #[.int .i64 (-1)] 2)) B 2 1 (.slice Av p.ends.length cv) p.ends.length (encN p.ends)) := Lib.hid (by rw [← hve]; exact hX5.ends)
      have HL5 : Hid (Sl ((W.setCell ⟨b.p0, 4, none⟩ (.int .i64 (p.run + 1))).alloc (Obj.cells #[.int .i64 (-1)] 2)) 2 1 (some ⟨W.heap.size, 0, none⟩) 1 [.int .i64 (-1)]) := Lib.hid (by have h := Sl.of_new (W.setCell ⟨b.p0, 4, none⟩ (.int .i64 (p.run + 1))) 2 1 1 #[.int .i64 (-1)] [.int .i64 (-1)] rfl rfl; rw [World.size_setCell] at h; exact h)
      have HSZ := Lib.hid HXW.out.size
      have HF5 : Hid (Fr b.F w ((W.setCell ⟨b.p0, 4, none⟩ (.int .i64 (p.run + 1))).alloc (Obj.cells #[.int .i64 (-1)] 2))) := Lib.hid ((HFW.out.trans ((frP (b := b) W).mono fun k _ h => .inr (.inr (.inr h)))).alloc _)
      have HM5 := Lib.hid (((HMB.out.far (p := ⟨b.p0, 4, none⟩) HGP.out (.int .i64 (p.run + 1))).alloc (Obj.cells #[.int .i64 (-1)] 2)))
      have HLN := Lib.hid (show p.ends.length ≤ 1000000 ∧ p.seen.length ≤ 1000000 by have := HI.out.h.ends; have := HI.out.h.seenL; have := HM.out.hl; omega)
      clear hX4 hve hvs hX5 HMB
      go_wp2_with (at_builtin; apply stopHere)
      unfold StopHere
      go_loud (refine wpList_append_owned' (by rfl) (.tmp 60) (.tmp 61) 51 (by rfl) B 2 i0 _ 1 8 Try.underlying51 hi0 hz0 hz1 hz2 rfl (by omega) (.slice Av p.ends.length cv) p.ends.length (encN p.ends) (by rfl) HE5.out (some ⟨W.heap.size, 0, none⟩) 1 1 2 [.int .i64 (-1)] (by rfl) HL5.out (by simp [Value.oneCell']) (by have := HLN.out.1; simp only [maxLen]; omega) (by have := HLN.out.1; omega) (by have := HSZ.out; simp only [World.size_alloc, World.size_setCell]; omega) ?_)
      intro v6 w6 ho6 hg6 hat6
      obtain ⟨A6, c6, rfl, _⟩ := own_shape ho6
      obtain ⟨hX6, hF6⟩ := HX5.out.growEnds (x := -1) ho6 (by rw [show PlB.ve { b with hu := u3, hbs := bs3 } = b.ve from rfl, HVE.out]; exact hg6) (by rw [show PlB.ve { b with hu := u3, hbs := bs3 } = b.ve from rfl, HVE.out]; exact hat6)
      have hpe : Fr (fun k => some k = b.ve.ownBlock) ((W.setCell ⟨b.p0, 4, none⟩ (.int .i64 (p.run + 1))).alloc (Obj.cells #[.int .i64 (-1)] 2)) w6 := by rw [HVE.out]; exact Fr.of_grown hg6
      have hp6 := HX5.out.blk.fr hpe (fun e => HX5.out.ve_p0 e.symm rfl)
      have a5 := hp6.cell 5
      have a6 := hp6.cell 6
      have al := hp6.lt
      have az := hp6.frozens
      simp only [List.getElem?_cons_zero, List.getElem?_cons_succ] at a5 a6
      rw [show PlB.vs { b with hu := u3, hbs := bs3 } = b.vs from rfl, HVS.out] at a6
      rw [show PlB.ve { b with hu := u3, hbs := bs3 } = b.ve from rfl, HVE.out] at a5
      have HX6 := Lib.hid hX6
      have HAT6 := Lib.hid hat6
      have HF6 := Lib.hid (HF5.out.trans (hF6.mono fun k _ h => .inr (.inr (.inr h))))
      have hM6 := HM5.out.fr hF6 (fun e => HX5.out.no_msgP _ _ _ HM5.out e)
      have hX7 := hX6.fr0 ((Fr.refl No _).alloc (Obj.cells #[.int .i64 0] 3))
      have HX7 := Lib.hid hX7
      have HS7 : Hid (World.ownsRow ((w6.setCell ⟨b.p0, 5, none⟩ (.slice A6 (p.ends.length + 1) c6)).alloc (Obj.cells #[.int .i64 0] 3)) B 3 1 (.slice As p.seen.length cs) p.seen.length (encN p.seen)) := Lib.hid (by rw [← HVS.out]; exact hX7.seen)
      have HL7 : Hid (Sl ((w6.setCell ⟨b.p0, 5, none⟩ (.slice A6 (p.ends.length + 1) c6)).alloc (Obj.cells #[.int .i64 0] 3)) 3 1 (some ⟨w6.heap.size, 0, none⟩) 1 [.int .i64 0]) := Lib.hid (by have h := Sl.of_new (w6.setCell ⟨b.p0, 5, none⟩ (.slice A6 (p.ends.length + 1) c6)) 3 1 1 #[.int .i64 0] [.int .i64 0] rfl rfl; rw [World.size_setCell] at h; exact h)
      have HM7 := Lib.hid (hM6.alloc (Obj.cells #[.int .i64 0] 3))
      have HF7 := Lib.hid (HF6.out.alloc (Obj.cells #[.int .i64 0] 3))
      clear hX6 hF6 hpe hp6 hM6 hX7 ho6 hg6 hat6
      go_wp2_with (at_builtin; apply stopHere)
      unfold StopHere
      go_loud (refine wpList_append_owned' (by rfl) (.tmp 69) (.tmp 70) 52 (by rfl) B 3 j0 _ 1 8 Try.underlying52 hj0 jz0 jz1 jz2 rfl (by omega) (.slice As p.seen.length cs) p.seen.length (encN p.seen) (by rfl) HS7.out (some ⟨w6.heap.size, 0, none⟩) 1 1 3 [.int .i64 0] (by rfl) HL7.out (by simp [Value.oneCell']) (by have := HLN.out.2; simp only [maxLen]; omega) (by have := HLN.out.2; omega) (by have := HX7.out.size; simp only [World.size_alloc, World.size_setCell] at this ⊢; omega) ?_)
      intro v8 w8 ho8 hg8 hat8
      obtain ⟨A8, c8, rfl, _⟩ := own_shape ho8
      obtain ⟨hX8, hF8⟩ := HX7.out.growSeen (x := 0) ho8 (by rw [show PlB.vs { ({ b with hu := u3, hbs := bs3 } : PlB) with ve := .slice A6 (p.ends.length + 1) c6 } = b.vs from rfl, HVS.out]; exact hg8) (by rw [show PlB.vs { ({ b with hu := u3, hbs := bs3 } : PlB) with ve := .slice A6 (p.ends.length + 1) c6 } = b.vs from rfl, HVS.out]; exact hat8)
      have hps : Fr (fun k => some k = b.vs.ownBlock) ((w6.setCell ⟨b.p0, 5, none⟩ (.slice A6 (p.ends.length + 1) c6)).alloc (Obj.cells #[.int .i64 0] 3)) w8 := by rw [HVS.out]; exact Fr.of_grown hg8
      have hp8 := HX7.out.blk.fr hps (fun e => HX7.out.vs_p0 e.symm rfl)
      have s6 := hp8.cell 6
      have sl := hp8.lt
      have sz := hp8.frozens
      simp only [List.getElem?_cons_zero, List.getElem?_cons_succ] at s6
      have HX8 := Lib.hid hX8
      have HF8 := Lib.hid (HF7.out.step hF8 (fun k hk => by
        rcases hk with h | h | h
        · exact .inl (.inr (.inr (.inr (.inl h))))
        · have h : (Value.slice A6 (p.ends.length + 1) c6).ownBlock = some k := h
          rcases HAT6.out with e | e
          · rw [h] at e
            exact .inl (.inr (.inr (.inr (.inr (.inl (by rw [HVE.out]; exact e.symm))))))
          · rw [h] at e
            injection e with e
            have := HF5.out.size
            exact .inr (by omega)
        · exact .inl (.inr (.inr (.inr (.inr (.inr h)))))))
      have hM8 := HM7.out.fr hps (fun e => HX7.out.no_msgP _ _ _ HM7.out (.inr (.inr e.symm)))
      obtain ⟨q0, q1, q2, q3, q4, q5, q6, q7⟩ := hM8.cells8
      have q8 := hM8.lt
      have q9 := hM8.frozens
      have ngp := HGP.out
      have ngp' : ¬ b.p0 = w.heap.size + 1 := fun e => ngp e.symm
      have HX9 := Lib.hid (HX8.out.fr0 ((Fr.refl No _).alloc (Obj.cells (startM (p.h.add (newR p mins)) (newR p mins)).vals.toArray 26)))
      have HL9 : Hid (Sl ((w8.setCell ⟨b.p0, 6, none⟩ (.slice A8 (p.seen.length + 1) c8)).alloc (Obj.cells (startM (p.h.add (newR p mins)) (newR p mins)).vals.toArray 26)) 26 8 (some ⟨w8.heap.size, 0, none⟩) 1 (startM (p.h.add (newR p mins)) (newR p mins)).vals) := Lib.hid (by have h := Sl.of_new (w8.setCell ⟨b.p0, 6, none⟩ (.slice A8 (p.seen.length + 1) c8)) 26 8 1 (startM (p.h.add (newR p mins)) (newR p mins)).vals.toArray (startM (p.h.add (newR p mins)) (newR p mins)).vals rfl rfl; rw [World.size_setCell] at h; exact h)
      clear hX8 hF8 hps hp8 hM8 ho8 hg8 hat8
      go_wp2_with (go_at_call 35; apply stopHere)
      unfold StopHere
      refine (lsend_any B _ _ (some ⟨w8.heap.size, 0, none⟩) 1 [startM (p.h.add (newR p mins)) (newR p mins)] _ HX9.out HL9.out (by simp)).mono ?_
      rintro e w10 ⟨⟨v10, rfl⟩, hX10, hF10⟩
      go_wp2_with (go_at_call 35; apply stopHere)
      refine bodyPost_end (v := .tuple #[]) (by simp [results, Try.results18, go_sem]) rfl ⟨{ b with hu := u3, hbs := bs3, ve := .slice A6 (p.ends.length + 1) c6, vs := .slice A8 (p.seen.length + 1) c8 }, ⟨_, rfl⟩, rfl, ?_, (HF8.out.alloc _).trans (hF10.mono fun k _ h => .inr (.inr (.inl (.inl h))))⟩
      rw [HST.out]
      exact hX10
  · have k0 : (sk == 0) = false := by simp only at h; rw [h]; rfl
    have k1 : (sk == 1) = true := by simpa using h
    clear h
    go_enter Try.func18, Try.ntmps18
    go_wp2
    refine wp_region_b [(0, 0), (1, 0), (2, 0), (4, 0), (5, 0), (6, 0), (9, 0), (12, 0), (13, 0), (14, 0), (18, 0), (19, 0), (20, 0), (3, 1), (7, 1), (8, 0), (10, 1), (15, 1), (16, 0), (17, 0), (21, 1), (11, 1)] 22 3 26 2 [(23, 0), (24, 0), (25, 0), (26, 2), (27, 3), (28, 0)] [(22, 3), (23, 0), (24, 0), (25, 0), (27, 3), (28, 0)] (by kernel_rfl) (by kernel_rfl) ?_
    repeat (first
      | (apply wpO_pure rfl rfl; (focus (intro w'; go_simp; (try rfl); done)); try simp only [Act.put, List.setIfInBounds_toArray, List.set_cons_zero, List.set_cons_succ])
      | (apply wpO_read rfl rfl; (focus (intro w' hf' hs'; (try simp only [World.size_drew, World.cell?_drew, World.size_alloc, World.size_setCell] at hs'); go_simp; (try rfl); done)); try simp only [Act.put, List.setIfInBounds_toArray, List.set_cons_zero, List.set_cons_succ])
      | (apply wpO_skip (by decide) rfl rfl; try simp only [Act.put, List.setIfInBounds_toArray, List.set_cons_zero, List.set_cons_succ]))
    apply wpO_call (v := .int .i64 mins) 34 #[.int .i64 sn, .int .i64 12] rfl rfl
    (focus (intro w'; go_simp; (try rfl); done))
    (focus (intro w' hf'; exact count_same HC.out _ HO.out.1 HO.out.2 (by omega) (by omega)))
    try simp only [Act.put, List.setIfInBounds_toArray, List.set_cons_zero, List.set_cons_succ]
    refine br_both ?_ ?_
    · skip
      refine wpO_loud rfl fun K hK => ?_
      go_simp
      refine (lask_to B b p _ (HX.out.fr0 (by (repeat (first | exact Fr.refl _ _ | assumption | refine Fr.drew ?_ | refine Fr.drewL ?_ | refine Fr.alloc ?_ _)))).hub HI.out HM.out hKK hR mins hm0 hm1 HAR.out).mono ?_
      rintro e w3 ⟨u3, bs3, rfl, hH3, hF3, hN3⟩
      refine hK _ _ ?_
      clear hK K
      have HX3 := Lib.hid ((HX.out.fr0 (by (repeat (first | exact Fr.refl _ _ | assumption | refine Fr.drew ?_ | refine Fr.drewL ?_ | refine Fr.alloc ?_ _)))).turnH hH3 hF3 hN3)
      have HF3 : Hid (Fr b.F w w3) := Lib.hid ((((Fr.refl No w).alloc _).drew.any _).trans (hF3.mono fun k _ h => .inl h))
      clear hH3 hF3 hN3
      repeat (first
        | (apply wpO_pure rfl rfl; (focus (intro w'; go_simp; (try rfl); done)); try simp only [Act.put, List.setIfInBounds_toArray, List.set_cons_zero, List.set_cons_succ])
        | (apply wpO_read rfl rfl; (focus (intro w' hf' hs'; (try simp only [World.size_drew, World.cell?_drew, World.size_alloc, World.size_setCell] at hs'); go_simp; (try rfl); done)); try simp only [Act.put, List.setIfInBounds_toArray, List.set_cons_zero, List.set_cons_succ])
        | (apply wpO_skip (by decide) rfl rfl; try simp only [Act.put, List.setIfInBounds_toArray, List.set_cons_zero, List.set_cons_succ]))
      refine wpO_loudE rfl fun K hK => ?_
      go_simp
      refine hK _ _ ⟨by (repeat (first | exact Fr.refl _ _ | assumption | refine Fr.drew ?_ | refine Fr.drewL ?_ | refine Fr.alloc ?_ _)), ?_⟩
      clear hK K
      repeat (first
        | (apply wpO_pure rfl rfl; (focus (intro w'; go_simp; (try rfl); done)); try simp only [Act.put, List.setIfInBounds_toArray, List.set_cons_zero, List.set_cons_succ])
        | (apply wpO_read rfl rfl; (focus (intro w' hf' hs'; (try simp only [World.size_drew, World.cell?_drew, World.size_alloc, World.size_setCell] at hs'); go_simp; (try rfl); done)); try simp only [Act.put, List.setIfInBounds_toArray, List.set_cons_zero, List.set_cons_succ])
        | (apply wpO_skip (by decide) rfl rfl; try simp only [Act.put, List.setIfInBounds_toArray, List.set_cons_zero, List.set_cons_succ]))
      refine wpO_loud rfl fun K hK => ?_
      go_simp
      refine hK _ _ ?_
      clear hK K
      repeat (first
        | (apply wpO_pure rfl rfl; (focus (intro w'; go_simp; (try rfl); done)); try simp only [Act.put, List.setIfInBounds_toArray, List.set_cons_zero, List.set_cons_succ])
        | (apply wpO_read rfl rfl; (focus (intro w' hf' hs'; (try simp only [World.size_drew, World.cell?_drew, World.size_alloc, World.size_setCell] at hs'); go_simp; (try rfl); done)); try simp only [Act.put, List.setIfInBounds_toArray, List.set_cons_zero, List.set_cons_succ])
        | (apply wpO_skip (by decide) rfl rfl; try simp only [Act.put, List.setIfInBounds_toArray, List.set_cons_zero, List.set_cons_succ]))
      repeat (first
        | (apply wpO_pure rfl rfl; (focus (intro w'; go_simp; (try rfl); done)); try simp only [Act.put, List.setIfInBounds_toArray, List.set_cons_zero, List.set_cons_succ])
        | (apply wpO_read rfl rfl; (focus (intro w' hf' hs'; (try simp only [World.size_drew, World.cell?_drew, World.size_alloc, World.size_setCell] at hs'); go_simp; (try rfl); done)); try simp only [Act.put, List.setIfInBounds_toArray, List.set_cons_zero, List.set_cons_succ])
        | (apply wpO_skip (by decide) rfl rfl; try simp only [Act.put, List.setIfInBounds_toArray, List.set_cons_zero, List.set_cons_succ]))
      refine wpO_nil ?_
      generalize hW : World.alloc w3 _ = W
      have HXW := Lib.hid (HX3.out.fr0 (show Fr No w3 W by subst hW; exact (Fr.refl No w3).alloc _))
      have HMB : Hid (Blk W w3.heap.size 26 (Msg.vals (startM (p.h.add (newR p mins)) (newR p mins)))) := Lib.hid (by subst hW; exact Blk.new w3 _ _)
      have HFW : Hid (Fr b.F w W) := Lib.hid (by subst hW; exact HF3.out.alloc _)
      have HGP : Hid (¬ w3.heap.size = b.p0) := Lib.hid (by have := HX3.out.blk.lt; intro e; have e2 : b.p0 < w3.heap.size := this; omega)
      clear hW y0 y3 y4 yl HX HX3 HF3
      have y4 := HXW.out.blk.cell 4
      have y5 := HXW.out.blk.cell 5
      have y6 := HXW.out.blk.cell 6
      have yl := HXW.out.blk.lt
      have yz := HXW.out.blk.frozens
      simp only [List.getElem?_cons_zero, List.getElem?_cons_succ] at y4 y5 y6
      have hX4 : PlAt B (W.setCell ⟨b.p0, 4, none⟩ (.int .i64 (p.run + 1))) { b with hu := u3, hbs := bs3 } { p with h := p.h.add (newR p mins), run := p.run + 1 } := HXW.out.setOne rfl rfl rfl rfl rfl rfl
      obtain ⟨Av, cv, hve, hcv⟩ := own_shape hX4.ends
      have hve : b.ve = .slice Av p.ends.length cv := hve
      obtain ⟨As, cs, hvs, hcs⟩ := own_shape hX4.seen
      have hvs : b.vs = .slice As p.seen.length cs := hvs
      rw [show PlB.ve { b with hu := u3, hbs := bs3 } = b.ve from rfl, hve] at y5
      rw [show PlB.vs { b with hu := u3, hbs := bs3 } = b.vs from rfl, hvs] at y6
      have HX4 := Lib.hid hX4
      have HVE := Lib.hid hve
      have HVS := Lib.hid hvs
      have hX5 := hX4.fr0 ((Fr.refl No _).alloc (Obj.cells #[.int .i64 (-1)] 2))
      have HX5 := Lib.hid hX5
      have HE5 : Hid (World.ownsRow ((W.setCell ⟨b.p0, 4, none⟩ (.int .i64 (p.run + 1))).alloc (Obj.cells #[.int .i64 (-1)] 2)) B 2 1 (.slice Av p.ends.length cv) p.ends.length (encN p.ends)) := Lib.hid (by rw [← hve]; exact hX5.ends)
      have HL5 : Hid (Sl ((W.setCell ⟨b.p0, 4, none⟩ (.int .i64 (p.run + 1))).alloc (Obj.cells #[.int .i64 (-1)] 2)) 2 1 (some ⟨W.heap.size, 0, none⟩) 1 [.int .i64 (-1)]) := Lib.hid (by have h := Sl.of_new (W.setCell ⟨b.p0, 4, none⟩ (.int .i64 (p.run + 1))) 2 1 1 #[.int .i64 (-1)] [.int .i64 (-1)] rfl rfl; rw [World.size_setCell] at h; exact h)
      have HSZ := Lib.hid HXW.out.size
      have HF5 : Hid (Fr b.F w ((W.setCell ⟨b.p0, 4, none⟩ (.int .i64 (p.run + 1))).alloc (Obj.cells #[.int .i64 (-1)] 2))) := Lib.hid ((HFW.out.trans ((frP (b := b) W).mono fun k _ h => .inr (.inr (.inr h)))).alloc _)
      have HM5 := Lib.hid (((HMB.out.far (p := ⟨b.p0, 4, none⟩) HGP.out (.int .i64 (p.run + 1))).alloc (Obj.cells #[.int .i64 (-1)] 2)))
      have HLN := Lib.hid (show p.ends.length ≤ 1000000 ∧ p.seen.length ≤ 1000000 by have := HI.out.h.ends; have := HI.out.h.seenL; have := HM.out.hl; omega)
      clear hX4 hve hvs hX5 HMB
      go_wp2_with (at_builtin; apply stopHere)
      unfold StopHere
      go_loud (refine wpList_append_owned' (by rfl) (.tmp 60) (.tmp 61) 51 (by rfl) B 2 i0 _ 1 8 Try.underlying51 hi0 hz0 hz1 hz2 rfl (by omega) (.slice Av p.ends.length cv) p.ends.length (encN p.ends) (by rfl) HE5.out (some ⟨W.heap.size, 0, none⟩) 1 1 2 [.int .i64 (-1)] (by rfl) HL5.out (by simp [Value.oneCell']) (by have := HLN.out.1; simp only [maxLen]; omega) (by have := HLN.out.1; omega) (by have := HSZ.out; simp only [World.size_alloc, World.size_setCell]; omega) ?_)
      intro v6 w6 ho6 hg6 hat6
      obtain ⟨A6, c6, rfl, _⟩ := own_shape ho6
      obtain ⟨hX6, hF6⟩ := HX5.out.growEnds (x := -1) ho6 (by rw [show PlB.ve { b with hu := u3, hbs := bs3 } = b.ve from rfl, HVE.out]; exact hg6) (by rw [show PlB.ve { b with hu := u3, hbs := bs3 } = b.ve from rfl, HVE.out]; exact hat6)
      have hpe : Fr (fun k => some k = b.ve.ownBlock) ((W.setCell ⟨b.p0, 4, none⟩ (.int .i64 (p.run + 1))).alloc (Obj.cells #[.int .i64 (-1)] 2)) w6 := by rw [HVE.out]; exact Fr.of_grown hg6
      have hp6 := HX5.out.blk.fr hpe (fun e => HX5.out.ve_p0 e.symm rfl)
      have a5 := hp6.cell 5
      have a6 := hp6.cell 6
      have al := hp6.lt
      have az := hp6.frozens
      simp only [List.getElem?_cons_zero, List.getElem?_cons_succ] at a5 a6
      rw [show PlB.vs { b with hu := u3, hbs := bs3 } = b.vs from rfl, HVS.out] at a6
      rw [show PlB.ve { b with hu := u3, hbs := bs3 } = b.ve from rfl, HVE.out] at a5
      have HX6 := Lib.hid hX6
      have HAT6 := Lib.hid hat6
      have HF6 := Lib.hid (HF5.out.trans (hF6.mono fun k _ h => .inr (.inr (.inr h))))
      have hM6 := HM5.out.fr hF6 (fun e => HX5.out.no_msgP _ _ _ HM5.out e)
      have hX7 := hX6.fr0 ((Fr.refl No _).alloc (Obj.cells #[.int .i64 0] 3))
      have HX7 := Lib.hid hX7
      have HS7 : Hid (World.ownsRow ((w6.setCell ⟨b.p0, 5, none⟩ (.slice A6 (p.ends.length + 1) c6)).alloc (Obj.cells #[.int .i64 0] 3)) B 3 1 (.slice As p.seen.length cs) p.seen.length (encN p.seen)) := Lib.hid (by rw [← HVS.out]; exact hX7.seen)
      have HL7 : Hid (Sl ((w6.setCell ⟨b.p0, 5, none⟩ (.slice A6 (p.ends.length + 1) c6)).alloc (Obj.cells #[.int .i64 0] 3)) 3 1 (some ⟨w6.heap.size, 0, none⟩) 1 [.int .i64 0]) := Lib.hid (by have h := Sl.of_new (w6.setCell ⟨b.p0, 5, none⟩ (.slice A6 (p.ends.length + 1) c6)) 3 1 1 #[.int .i64 0] [.int .i64 0] rfl rfl; rw [World.size_setCell] at h; exact h)
      have HM7 := Lib.hid (hM6.alloc (Obj.cells #[.int .i64 0] 3))
      have HF7 := Lib.hid (HF6.out.alloc (Obj.cells #[.int .i64 0] 3))
      clear hX6 hF6 hpe hp6 hM6 hX7 ho6 hg6 hat6
      go_wp2_with (at_builtin; apply stopHere)
      unfold StopHere
      go_loud (refine wpList_append_owned' (by rfl) (.tmp 69) (.tmp 70) 52 (by rfl) B 3 j0 _ 1 8 Try.underlying52 hj0 jz0 jz1 jz2 rfl (by omega) (.slice As p.seen.length cs) p.seen.length (encN p.seen) (by rfl) HS7.out (some ⟨w6.heap.size, 0, none⟩) 1 1 3 [.int .i64 0] (by rfl) HL7.out (by simp [Value.oneCell']) (by have := HLN.out.2; simp only [maxLen]; omega) (by have := HLN.out.2; omega) (by have := HX7.out.size; simp only [World.size_alloc, World.size_setCell] at this ⊢; omega) ?_)
      intro v8 w8 ho8 hg8 hat8
      obtain ⟨A8, c8, rfl, _⟩ := own_shape ho8
      obtain ⟨hX8, hF8⟩ := HX7.out.growSeen (x := 0) ho8 (by rw [show PlB.vs { ({ b with hu := u3, hbs := bs3 } : PlB) with ve := .slice A6 (p.ends.length + 1) c6 } = b.vs from rfl, HVS.out]; exact hg8) (by rw [show PlB.vs { ({ b with hu := u3, hbs := bs3 } : PlB) with ve := .slice A6 (p.ends.length + 1) c6 } = b.vs from rfl, HVS.out]; exact hat8)
      have hps : Fr (fun k => some k = b.vs.ownBlock) ((w6.setCell ⟨b.p0, 5, none⟩ (.slice A6 (p.ends.length + 1) c6)).alloc (Obj.cells #[.int .i64 0] 3)) w8 := by rw [HVS.out]; exact Fr.of_grown hg8
      have hp8 := HX7.out.blk.fr hps (fun e => HX7.out.vs_p0 e.symm rfl)
      have s6 := hp8.cell 6
      have sl := hp8.lt
      have sz := hp8.frozens
      simp only [List.getElem?_cons_zero, List.getElem?_cons_succ] at s6
      have HX8 := Lib.hid hX8
      have HF8 := Lib.hid (HF7.out.step hF8 (fun k hk => by
        rcases hk with h | h | h
        · exact .inl (.inr (.inr (.inr (.inl h))))
        · have h : (Value.slice A6 (p.ends.length + 1) c6).ownBlock = some k := h
          rcases HAT6.out with e | e
          · rw [h] at e
            exact .inl (.inr (.inr (.inr (.inr (.inl (by rw [HVE.out]; exact e.symm))))))
          · rw [h] at e
            injection e with e
            have := HF5.out.size
            exact .inr (by omega)
        · exact .inl (.inr (.inr (.inr (.inr (.inr h)))))))
      have hM8 := HM7.out.fr hps (fun e => HX7.out.no_msgP _ _ _ HM7.out (.inr (.inr e.symm)))
      obtain ⟨q0, q1, q2, q3, q4, q5, q6, q7⟩ := hM8.cells8
      have q8 := hM8.lt
      have q9 := hM8.frozens
      have ngp := HGP.out
      have ngp' : ¬ b.p0 = w3.heap.size := fun e => ngp e.symm
      have HX9 := Lib.hid (HX8.out.fr0 ((Fr.refl No _).alloc (Obj.cells (startM (p.h.add (newR p mins)) (newR p mins)).vals.toArray 26)))
      have HL9 : Hid (Sl ((w8.setCell ⟨b.p0, 6, none⟩ (.slice A8 (p.seen.length + 1) c8)).alloc (Obj.cells (startM (p.h.add (newR p mins)) (newR p mins)).vals.toArray 26)) 26 8 (some ⟨w8.heap.size, 0, none⟩) 1 (startM (p.h.add (newR p mins)) (newR p mins)).vals) := Lib.hid (by have h := Sl.of_new (w8.setCell ⟨b.p0, 6, none⟩ (.slice A8 (p.seen.length + 1) c8)) 26 8 1 (startM (p.h.add (newR p mins)) (newR p mins)).vals.toArray (startM (p.h.add (newR p mins)) (newR p mins)).vals rfl rfl; rw [World.size_setCell] at h; exact h)
      clear hX8 hF8 hps hp8 hM8 ho8 hg8 hat8
      go_wp2_with (go_at_call 35; apply stopHere)
      unfold StopHere
      refine (lsend_any B _ _ (some ⟨w8.heap.size, 0, none⟩) 1 [startM (p.h.add (newR p mins)) (newR p mins)] _ HX9.out HL9.out (by simp)).mono ?_
      rintro e w10 ⟨⟨v10, rfl⟩, hX10, hF10⟩
      go_wp2_with (go_at_call 35; apply stopHere)
      refine bodyPost_end (v := .tuple #[]) (by simp [results, Try.results18, go_sem]) rfl ⟨{ b with hu := u3, hbs := bs3, ve := .slice A6 (p.ends.length + 1) c6, vs := .slice A8 (p.seen.length + 1) c8 }, ⟨_, rfl⟩, rfl, ?_, (HF8.out.alloc _).trans (hF10.mono fun k _ h => .inr (.inr (.inl (.inl h))))⟩
      rw [HST.out]
      exact hX10
    · skip
      refine wpO_loudE rfl fun K hK => ?_
      go_simp
      refine hK _ _ ⟨by (repeat (first | exact Fr.refl _ _ | assumption | refine Fr.drew ?_ | refine Fr.drewL ?_ | refine Fr.alloc ?_ _)), ?_⟩
      clear hK K
      repeat (first
        | (apply wpO_pure rfl rfl; (focus (intro w'; go_simp; (try rfl); done)); try simp only [Act.put, List.setIfInBounds_toArray, List.set_cons_zero, List.set_cons_succ])
        | (apply wpO_read rfl rfl; (focus (intro w' hf' hs'; (try simp only [World.size_drew, World.cell?_drew, World.size_alloc, World.size_setCell] at hs'); go_simp; (try rfl); done)); try simp only [Act.put, List.setIfInBounds_toArray, List.set_cons_zero, List.set_cons_succ])
        | (apply wpO_skip (by decide) rfl rfl; try simp only [Act.put, List.setIfInBounds_toArray, List.set_cons_zero, List.set_cons_succ]))
      have HA2 := Lib.hid (HX.out.fr0 (((Fr.refl No _).drew).alloc (Obj.cells zeroMsg.vals.toArray 26)))
      have HZ2 := Lib.hid (Blk.new (w.alloc (Obj.cells (AStep.vals ⟨sk, sn⟩).toArray 49)).drew 26 zeroMsg.vals)
      refine wpO_loud rfl fun K hK => ?_
      go_simp
      refine (lask_to B b p _ HA2.out.hub HI.out HM.out hKK hR mins hm0 hm1 HAR.out).mono ?_
      rintro e w3 ⟨u3, bs3, rfl, hH3, hF3, hN3⟩
      refine hK _ _ ?_
      clear hK K
      have hZ3 := HZ2.out.fr hF3 (fun e => HA2.out.hub.no_msg _ _ _ HZ2.out e)
      simp only [World.size_drew, World.size_alloc] at hZ3 hN3
      have HZ3 := Lib.hid hZ3
      obtain ⟨f0, f1, f2, f3, f4, f5, f6, f7⟩ := HZ3.out.cells8
      have f8 := HZ3.out.lt
      have f9 := HZ3.out.frozens
      have HF3 := Lib.hid hF3
      have HH3 := Lib.hid hH3
      have HN3 := Lib.hid hN3
      clear hF3 hH3 hN3 hZ3
      repeat (first
        | (apply wpO_pure rfl rfl; (focus (intro w'; go_simp; (try rfl); done)); try simp only [Act.put, List.setIfInBounds_toArray, List.set_cons_zero, List.set_cons_succ])
        | (apply wpO_read rfl rfl; (focus (intro w' hf' hs'; (try simp only [World.size_drew, World.cell?_drew, World.size_alloc, World.size_setCell] at hs'); go_simp; (try rfl); done)); try simp only [Act.put, List.setIfInBounds_toArray, List.set_cons_zero, List.set_cons_succ])
        | (apply wpO_skip (by decide) rfl rfl; try simp only [Act.put, List.setIfInBounds_toArray, List.set_cons_zero, List.set_cons_succ]))
      refine wpO_loud rfl fun K hK => ?_
      go_simp
      refine hK _ _ ?_
      clear hK K
      repeat (first
        | (apply wpO_pure rfl rfl; (focus (intro w'; go_simp; (try rfl); done)); try simp only [Act.put, List.setIfInBounds_toArray, List.set_cons_zero, List.set_cons_succ])
        | (apply wpO_read rfl rfl; (focus (intro w' hf' hs'; (try simp only [World.size_drew, World.cell?_drew, World.size_alloc, World.size_setCell] at hs'); go_simp; (try rfl); done)); try simp only [Act.put, List.setIfInBounds_toArray, List.set_cons_zero, List.set_cons_succ])
        | (apply wpO_skip (by decide) rfl rfl; try simp only [Act.put, List.setIfInBounds_toArray, List.set_cons_zero, List.set_cons_succ]))
      repeat (first
        | (apply wpO_pure rfl rfl; (focus (intro w'; go_simp; (try rfl); done)); try simp only [Act.put, List.setIfInBounds_toArray, List.set_cons_zero, List.set_cons_succ])
        | (apply wpO_read rfl rfl; (focus (intro w' hf' hs'; (try simp only [World.size_drew, World.cell?_drew, World.size_alloc, World.size_setCell] at hs'); go_simp; (try rfl); done)); try simp only [Act.put, List.setIfInBounds_toArray, List.set_cons_zero, List.set_cons_succ])
        | (apply wpO_skip (by decide) rfl rfl; try simp only [Act.put, List.setIfInBounds_toArray, List.set_cons_zero, List.set_cons_succ]))
      refine wpO_nil ?_
      generalize hW : World.setCell _ _ _ = W
      have hFS : Fr (fun k => k = w.heap.size + 1) w3 W := by subst hW; exact fr_set8 (S := fun k => k = w.heap.size + 1) (x := (startM (p.h.add (newR p mins)) (newR p mins))) rfl
      have hF1 : Fr b.H (w.alloc (Obj.cells (AStep.vals ⟨sk, sn⟩).toArray 49)) W := ((((Fr.refl No _).drew.alloc _).any _).trans HF3.out).step hFS fun k e => .inr (by have e : k = w.heap.size + 1 := e; rw [e, World.size_alloc]; exact Nat.le_refl _)
      have HXW := Lib.hid (HX.out.turnH (HH3.out.fr hFS fun k hk e => by have e : k = w.heap.size + 1 := e; subst e; exact HH3.out.no_msg _ _ _ HZ3.out hk) hF1 fun k hk => (HN3.out k hk).imp id fun h => by rw [World.size_alloc]; omega)
      have HMB : Hid (Blk W (w.heap.size + 1) 26 (Msg.vals (startM (p.h.add (newR p mins)) (newR p mins)))) := Lib.hid (by subst hW; exact HZ3.out.set8 (startM (p.h.add (newR p mins)) (newR p mins)))
      have HFW : Hid (Fr b.F w W) := Lib.hid ((((Fr.refl No w).alloc _).any _).trans (hF1.mono fun k _ h => .inl h))
      have HGP : Hid (¬ w.heap.size + 1 = b.p0) := Lib.hid (by have := HX.out.blk.lt; rw [World.size_alloc] at this; omega)
      clear hW hFS hF1 f0 f1 f2 f3 f4 f5 f6 f7 f8 f9 y0 y3 y4 yl HX HF3 HZ3 HZ2 HA2 HH3 HN3
      have y4 := HXW.out.blk.cell 4
      have y5 := HXW.out.blk.cell 5
      have y6 := HXW.out.blk.cell 6
      have yl := HXW.out.blk.lt
      have yz := HXW.out.blk.frozens
      simp only [List.getElem?_cons_zero, List.getElem?_cons_succ] at y4 y5 y6
      have hX4 : PlAt B (W.setCell ⟨b.p0, 4, none⟩ (.int .i64 (p.run + 1))) { b with hu := u3, hbs := bs3 } { p with h := p.h.add (newR p mins), run := p.run + 1 } := HXW.out.setOne rfl rfl rfl rfl rfl rfl
      obtain ⟨Av, cv, hve, hcv⟩ := own_shape hX4.ends
      have hve : b.ve = .slice Av p.ends.length cv := hve
      obtain ⟨As, cs, hvs, hcs⟩ := own_shape hX4.seen
      have hvs : b.vs = .slice As p.seen.length cs := hvs
      rw [show PlB.ve { b with hu := u3, hbs := bs3 } = b.ve from rfl, hve] at y5
      rw [show PlB.vs { b with hu := u3, hbs := bs3 } = b.vs from rfl, hvs] at y6
      have HX4 := Lib.hid hX4
      have HVE := Lib.hid hve
      have HVS := Lib.hid hvs
      have hX5 := hX4.fr0 ((Fr.refl No _).alloc (Obj.cells #[.int .i64 (-1)] 2))
      have HX5 := Lib.hid hX5
      have HE5 : Hid (World.ownsRow ((W.setCell ⟨b.p0, 4, none⟩ (.int .i64 (p.run + 1))).alloc (Obj.cells #[.int .i64 (-1)] 2)) B 2 1 (.slice Av p.ends.length cv) p.ends.length (encN p.ends)) := Lib.hid (by rw [← hve]; exact hX5.ends)
      have HL5 : Hid (Sl ((W.setCell ⟨b.p0, 4, none⟩ (.int .i64 (p.run + 1))).alloc (Obj.cells #[.int .i64 (-1)] 2)) 2 1 (some ⟨W.heap.size, 0, none⟩) 1 [.int .i64 (-1)]) := Lib.hid (by have h := Sl.of_new (W.setCell ⟨b.p0, 4, none⟩ (.int .i64 (p.run + 1))) 2 1 1 #[.int .i64 (-1)] [.int .i64 (-1)] rfl rfl; rw [World.size_setCell] at h; exact h)
      have HSZ := Lib.hid HXW.out.size
      have HF5 : Hid (Fr b.F w ((W.setCell ⟨b.p0, 4, none⟩ (.int .i64 (p.run + 1))).alloc (Obj.cells #[.int .i64 (-1)] 2))) := Lib.hid ((HFW.out.trans ((frP (b := b) W).mono fun k _ h => .inr (.inr (.inr h)))).alloc _)
      have HM5 := Lib.hid (((HMB.out.far (p := ⟨b.p0, 4, none⟩) HGP.out (.int .i64 (p.run + 1))).alloc (Obj.cells #[.int .i64 (-1)] 2)))
      have HLN := Lib.hid (show p.ends.length ≤ 1000000 ∧ p.seen.length ≤ 1000000 by have := HI.out.h.ends; have := HI.out.h.seenL; have := HM.out.hl; omega)
      clear hX4 hve hvs hX5 HMB
      go_wp2_with (at_builtin; apply stopHere)
      unfold StopHere
      go_loud (refine wpList_append_owned' (by rfl) (.tmp 60) (.tmp 61) 51 (by rfl) B 2 i0 _ 1 8 Try.underlying51 hi0 hz0 hz1 hz2 rfl (by omega) (.slice Av p.ends.length cv) p.ends.length (encN p.ends) (by rfl) HE5.out (some ⟨W.heap.size, 0, none⟩) 1 1 2 [.int .i64 (-1)] (by rfl) HL5.out (by simp [Value.oneCell']) (by have := HLN.out.1; simp only [maxLen]; omega) (by have := HLN.out.1; omega) (by have := HSZ.out; simp only [World.size_alloc, World.size_setCell]; omega) ?_)
      intro v6 w6 ho6 hg6 hat6
      obtain ⟨A6, c6, rfl, _⟩ := own_shape ho6
      obtain ⟨hX6, hF6⟩ := HX5.out.growEnds (x := -1) ho6 (by rw [show PlB.ve { b with hu := u3, hbs := bs3 } = b.ve from rfl, HVE.out]; exact hg6) (by rw [show PlB.ve { b with hu := u3, hbs := bs3 } = b.ve from rfl, HVE.out]; exact hat6)
      have hpe : Fr (fun k => some k = b.ve.ownBlock) ((W.setCell ⟨b.p0, 4, none⟩ (.int .i64 (p.run + 1))).alloc (Obj.cells #[.int .i64 (-1)] 2)) w6 := by rw [HVE.out]; exact Fr.of_grown hg6
      have hp6 := HX5.out.blk.fr hpe (fun e => HX5.out.ve_p0 e.symm rfl)
      have a5 := hp6.cell 5
      have a6 := hp6.cell 6
      have al := hp6.lt
      have az := hp6.frozens
      simp only [List.getElem?_cons_zero, List.getElem?_cons_succ] at a5 a6
      rw [show PlB.vs { b with hu := u3, hbs := bs3 } = b.vs from rfl, HVS.out] at a6
      rw [show PlB.ve { b with hu := u3, hbs := bs3 } = b.ve from rfl, HVE.out] at a5
      have HX6 := Lib.hid hX6
      have HAT6 := Lib.hid hat6
      have HF6 := Lib.hid (HF5.out.trans (hF6.mono fun k _ h => .inr (.inr (.inr h))))
      have hM6 := HM5.out.fr hF6 (fun e => HX5.out.no_msgP _ _ _ HM5.out e)
      have hX7 := hX6.fr0 ((Fr.refl No _).alloc (Obj.cells #[.int .i64 0] 3))
      have HX7 := Lib.hid hX7
      have HS7 : Hid (World.ownsRow ((w6.setCell ⟨b.p0, 5, none⟩ (.slice A6 (p.ends.length + 1) c6)).alloc (Obj.cells #[.int .i64 0] 3)) B 3 1 (.slice As p.seen.length cs) p.seen.length (encN p.seen)) := Lib.hid (by rw [← HVS.out]; exact hX7.seen)
      have HL7 : Hid (Sl ((w6.setCell ⟨b.p0, 5, none⟩ (.slice A6 (p.ends.length + 1) c6)).alloc (Obj.cells #[.int .i64 0] 3)) 3 1 (some ⟨w6.heap.size, 0, none⟩) 1 [.int .i64 0]) := Lib.hid (by have h := Sl.of_new (w6.setCell ⟨b.p0, 5, none⟩ (.slice A6 (p.ends.length + 1) c6)) 3 1 1 #[.int .i64 0] [.int .i64 0] rfl rfl; rw [World.size_setCell] at h; exact h)
      have HM7 := Lib.hid (hM6.alloc (Obj.cells #[.int .i64 0] 3))
      have HF7 := Lib.hid (HF6.out.alloc (Obj.cells #[.int .i64 0] 3))
      clear hX6 hF6 hpe hp6 hM6 hX7 ho6 hg6 hat6
      go_wp2_with (at_builtin; apply stopHere)
      unfold StopHere
      go_loud (refine wpList_append_owned' (by rfl) (.tmp 69) (.tmp 70) 52 (by rfl) B 3 j0 _ 1 8 Try.underlying52 hj0 jz0 jz1 jz2 rfl (by omega) (.slice As p.seen.length cs) p.seen.length (encN p.seen) (by rfl) HS7.out (some ⟨w6.heap.size, 0, none⟩) 1 1 3 [.int .i64 0] (by rfl) HL7.out (by simp [Value.oneCell']) (by have := HLN.out.2; simp only [maxLen]; omega) (by have := HLN.out.2; omega) (by have := HX7.out.size; simp only [World.size_alloc, World.size_setCell] at this ⊢; omega) ?_)
      intro v8 w8 ho8 hg8 hat8
      obtain ⟨A8, c8, rfl, _⟩ := own_shape ho8
      obtain ⟨hX8, hF8⟩ := HX7.out.growSeen (x := 0) ho8 (by rw [show PlB.vs { ({ b with hu := u3, hbs := bs3 } : PlB) with ve := .slice A6 (p.ends.length + 1) c6 } = b.vs from rfl, HVS.out]; exact hg8) (by rw [show PlB.vs { ({ b with hu := u3, hbs := bs3 } : PlB) with ve := .slice A6 (p.ends.length + 1) c6 } = b.vs from rfl, HVS.out]; exact hat8)
      have hps : Fr (fun k => some k = b.vs.ownBlock) ((w6.setCell ⟨b.p0, 5, none⟩ (.slice A6 (p.ends.length + 1) c6)).alloc (Obj.cells #[.int .i64 0] 3)) w8 := by rw [HVS.out]; exact Fr.of_grown hg8
      have hp8 := HX7.out.blk.fr hps (fun e => HX7.out.vs_p0 e.symm rfl)
      have s6 := hp8.cell 6
      have sl := hp8.lt
      have sz := hp8.frozens
      simp only [List.getElem?_cons_zero, List.getElem?_cons_succ] at s6
      have HX8 := Lib.hid hX8
      have HF8 := Lib.hid (HF7.out.step hF8 (fun k hk => by
        rcases hk with h | h | h
        · exact .inl (.inr (.inr (.inr (.inl h))))
        · have h : (Value.slice A6 (p.ends.length + 1) c6).ownBlock = some k := h
          rcases HAT6.out with e | e
          · rw [h] at e
            exact .inl (.inr (.inr (.inr (.inr (.inl (by rw [HVE.out]; exact e.symm))))))
          · rw [h] at e
            injection e with e
            have := HF5.out.size
            exact .inr (by omega)
        · exact .inl (.inr (.inr (.inr (.inr (.inr h)))))))
      have hM8 := HM7.out.fr hps (fun e => HX7.out.no_msgP _ _ _ HM7.out (.inr (.inr e.symm)))
      obtain ⟨q0, q1, q2, q3, q4, q5, q6, q7⟩ := hM8.cells8
      have q8 := hM8.lt
      have q9 := hM8.frozens
      have ngp := HGP.out
      have ngp' : ¬ b.p0 = w.heap.size + 1 := fun e => ngp e.symm
      have HX9 := Lib.hid (HX8.out.fr0 ((Fr.refl No _).alloc (Obj.cells (startM (p.h.add (newR p mins)) (newR p mins)).vals.toArray 26)))
      have HL9 : Hid (Sl ((w8.setCell ⟨b.p0, 6, none⟩ (.slice A8 (p.seen.length + 1) c8)).alloc (Obj.cells (startM (p.h.add (newR p mins)) (newR p mins)).vals.toArray 26)) 26 8 (some ⟨w8.heap.size, 0, none⟩) 1 (startM (p.h.add (newR p mins)) (newR p mins)).vals) := Lib.hid (by have h := Sl.of_new (w8.setCell ⟨b.p0, 6, none⟩ (.slice A8 (p.seen.length + 1) c8)) 26 8 1 (startM (p.h.add (newR p mins)) (newR p mins)).vals.toArray (startM (p.h.add (newR p mins)) (newR p mins)).vals rfl rfl; rw [World.size_setCell] at h; exact h)
      clear hX8 hF8 hps hp8 hM8 ho8 hg8 hat8
      go_wp2_with (go_at_call 35; apply stopHere)
      unfold StopHere
      refine (lsend_any B _ _ (some ⟨w8.heap.size, 0, none⟩) 1 [startM (p.h.add (newR p mins)) (newR p mins)] _ HX9.out HL9.out (by simp)).mono ?_
      rintro e w10 ⟨⟨v10, rfl⟩, hX10, hF10⟩
      go_wp2_with (go_at_call 35; apply stopHere)
      refine bodyPost_end (v := .tuple #[]) (by simp [results, Try.results18, go_sem]) rfl ⟨{ b with hu := u3, hbs := bs3, ve := .slice A6 (p.ends.length + 1) c6, vs := .slice A8 (p.seen.length + 1) c8 }, ⟨_, rfl⟩, rfl, ?_, (HF8.out.alloc _).trans (hF10.mono fun k _ h => .inr (.inr (.inl (.inl h))))⟩
      rw [HST.out]
      exact hX10
/-- step, whole -/
theorem lstep_any (B : Nat) (b : PlB) (p : PlayS) (w : World) (X : PlAt B w b p) (I : Inv p) {K : Int} {R : Nat} (M : NumB K R p) (hKK : K + 7 ≤ 1000000) (hR : R ≤ 1000000) (s : AStep) (ho : s.Ok) :
    Calls Try.prog 18 #[.pointer (some ⟨b.p0, 0, none⟩), s.val] w fun e w' => StepOut B w w' b (stepS p s) e := by
  by_cases h1 : s.kind = 0 ∨ s.kind = 1
  · by_cases hroom : p.h.l.length - p.h.frm < 64
    · exact lstep_ask_ok B b p w X I M (by omega) hR s ho h1 hroom
    · exact lstep_ask_full B b p w X I M (by omega) hR s ho h1 hroom
  · by_cases h2 : 2 ≤ s.kind ∧ s.kind ≤ 5
    · exact lstep_come B b p w X I M (by omega) hR s ho h2
    · by_cases h6 : s.kind = 6
      · exact lstep_lose B b p w X M s ho h6
      · by_cases h7 : s.kind = 7
        · exact lstep_twice B b p w X M s ho h7
        · exact lstep_ticks B b p w X I M hKK hR s ho (by omega)
end Go.Proofs.Ytohnchkoldbpcaa

/- agent, the law: what must come of fixed calls. -/
namespace Go.Proofs.Ytohnchkoldbpcaa
open Go Go.RowKit Go.Proofs

structure TwoE where
  hu : Value
  hbs : List Nat
  au : Value
  abs : List Nat
/-- a hub and an agent that lie apart -/
structure HAt (w : World) (hp hm aq : Nat) (b : TwoE) (h : HubS) (a : AgS) : Prop where
  hub : HubAt w hp hm b.hu b.hbs h
  ag : AgAt w aq b.au b.abs a
  sep : Sep (HubF hp hm b.hu b.hbs) (AgF aq b.au b.abs)
section
variable {w w' : World} {hp hm aq : Nat} {b : TwoE} {h h' : HubS} {a a' : AgS}
theorem HAt.fr0 (X : HAt w hp hm aq b h a) (hf : Fr No w w') : HAt w' hp hm aq b h a := ⟨X.hub.fr0 hf, X.ag.fr0 hf, X.sep⟩
theorem HAt.turnH (X : HAt w hp hm aq b h a) {u' : Value} {bs' : List Nat} (hh : HubAt w' hp hm u' bs' h') (hf : Fr (HubF hp hm b.hu b.hbs) w w') (hF : ∀ k, HubF hp hm u' bs' k → HubF hp hm b.hu b.hbs k ∨ w.heap.size ≤ k) :
    HAt w' hp hm aq { b with hu := u', hbs := bs' } h' a := ⟨hh, X.ag.fr hf X.sep.symm, X.sep.turn hF X.ag.lt⟩
theorem HAt.turnA (X : HAt w hp hm aq b h a) {u' : Value} {bs' : List Nat} (hh : AgAt w' aq u' bs' a') (hf : Fr (AgF aq b.au b.abs) w w') (hF : ∀ k, AgF aq u' bs' k → AgF aq b.au b.abs k ∨ w.heap.size ≤ k) :
    HAt w' hp hm aq { b with au := u', abs := bs' } h a' := ⟨X.hub.fr hf X.sep, hh, (X.sep.symm.turn hF X.hub.lt).symm⟩
end
abbrev kr : Req := ⟨1, 0, 10, 3, jobA, 100⟩
abbrev kh0 : HubS := ⟨0, 1, [], 0⟩
abbrev kh1 : HubS := ⟨0, 1, [kr], 0⟩
abbrev kh2 : HubS := ⟨0, 1, [{ kr with state := 2 }], 1⟩
abbrev km : Msg := ⟨0, 1, 1, 1, 1, 10, 3, jobA⟩
abbrev ka0 : AgS := ⟨1, 0, [], 1, 0⟩
abbrev ka1 : AgS := ⟨1, 0, [⟨1, false, false, 110, 3, 0⟩], 1, 1⟩
abbrev ka2 : AgS := ⟨1, 0, [⟨1, true, false, 110, 3, 110⟩], 1, 1⟩
theorem k_start : startM kh1 kr = km := by rfl
theorem k_take : ka0.take km 100 = (ka1, [sayM 1 0 2 1 0], 0) := by
  first
    | rfl
    | decide +kernel
theorem k_early : ka1.tick 109 = (ka1, []) := by rfl
theorem k_late : ka1.tick 110 = (ka2, [sayM 1 0 3 1 3]) := by rfl
theorem k_htake : kh1.take (sayM 1 0 3 1 3) = (kh2, [sayM 0 1 4 1 0], [(1, 3)], 0) := by rfl
theorem k_open : kh2.openN = 0 := by rfl
theorem k_low : kh2.low = 2 := by rfl
theorem k_sorted0 : SortedA ka0.l := List.Pairwise.nil
theorem k_sorted1 : SortedA ka1.l := List.pairwise_singleton _ _
theorem k_ask {w : World} {hp hm : Nat} {u : Value} {bs : List Nat} (H : HubAt w hp hm u bs kh0) : Calls Try.prog 6 #[.pointer (some ⟨hp, 0, none⟩), .int .i64 1, .int .i64 10, .int .i64 3, .string ⟨#[97]⟩, .int .i64 100] w fun e w' =>
    ∃ u' bs', e = .returned (msgErr km 0) ∧ HubAt w' hp hm u' bs' kh1 ∧ Fr (HubF hp hm u bs) w w' ∧ ∀ k, HubF hp hm u' bs' k → HubF hp hm u bs k ∨ w.heap.size ≤ k :=
  (ask_ok hp hm u bs kh0 w H 1 10 3 100 jobA (by decide) (by decide) (by decide) jobA_ne (by decide) (by decide) (by decide) (by decide) (by decide) (by decide) (by decide) (by decide) (by decide)).mono
    fun e w' ⟨u3, b3, he, hH3, hf3, hF3⟩ => ⟨u3, _, he, hH3, hf3, hF3⟩
theorem k_atake {w : World} {aq : Nat} {u : Value} {bs : List Nat} (H : AgAt w aq u bs ka0) : Calls Try.prog 9 #[.pointer (some ⟨aq, 0, none⟩), km.val, .int .i64 100] w fun e w' =>
    ∃ u' bs' A c, e = .returned (.tuple #[.slice A 1 c, .int .i64 0]) ∧ Sl w' 26 8 A 1 ([sayM 1 0 2 1 0].flatMap Msg.vals) ∧ AgAt w' aq u' bs' ka1 ∧ Fr (AgF aq u bs) w w' ∧ ∀ k, AgF aq u' bs' k → AgF aq u bs k ∨ w.heap.size ≤ k :=
  (agtake_any aq u bs ka0 km 100 w H k_sorted0 (by decide) (by decide)).mono fun e w' ⟨u', bs', ⟨A, c, he, hs⟩, hA, hf, hF⟩ => by
    rw [k_take] at he hs hA
    exact ⟨u', bs', A, c, he, hs, hA, hf, hF⟩
theorem k_early_ {w : World} {aq : Nat} {u : Value} {bs : List Nat} (H : AgAt w aq u bs ka1) : Calls Try.prog 11 #[.pointer (some ⟨aq, 0, none⟩), .int .i64 109] w fun e w' =>
    ∃ A c, e = .returned (.slice A 0 c) ∧ AgAt w' aq u bs ka1 ∧ Fr (AgF aq u bs) w w' :=
  (agtick_any aq u bs ka1 w H 109 (fun i x hx => by
    match i with
    | 0 => simp at hx; subst hx; decide
    | i + 1 => simp at hx)).mono fun e w' ⟨A, c, he, _, hA, hf⟩ => by
    rw [k_early] at he hA
    exact ⟨A, c, he, hA, hf⟩
theorem k_late_ {w : World} {aq : Nat} {u : Value} {bs : List Nat} (H : AgAt w aq u bs ka1) : Calls Try.prog 11 #[.pointer (some ⟨aq, 0, none⟩), .int .i64 110] w fun e w' =>
    ∃ A c, e = .returned (.slice A 1 c) ∧ Sl w' 26 8 A 1 ([sayM 1 0 3 1 3].flatMap Msg.vals) ∧ AgAt w' aq u bs ka2 ∧ Fr (AgF aq u bs) w w' :=
  (agtick_any aq u bs ka1 w H 110 (fun i x hx => by
    match i with
    | 0 => simp at hx; subst hx; decide
    | i + 1 => simp at hx)).mono fun e w' ⟨A, c, he, hs, hA, hf⟩ => by
    rw [k_late] at he hs hA
    exact ⟨A, c, he, hs, hA, hf⟩
theorem k_htake_ {w : World} {hp hm : Nat} {u : Value} {bs : List Nat} (H : HubAt w hp hm u bs kh1) : Calls Try.prog 7 #[.pointer (some ⟨hp, 0, none⟩), (sayM 1 0 3 1 3).val] w fun e w' =>
    ∃ A c D d, e = .returned (.tuple #[.slice A 1 c, .slice D 1 d, .int .i64 0]) ∧ Sl w' 26 8 A 1 ([sayM 0 1 4 1 0].flatMap Msg.vals) ∧ Sl w' 70 2 D 1 (repV [(1, 3)]) ∧ HubAt w' hp hm u bs kh2 ∧ Fr (HubF hp hm u bs) w w' :=
  (htake_any hp hm u bs kh1 (sayM 1 0 3 1 3) w H).mono fun e w' ⟨⟨A, c, D, d, he, hs, hr⟩, hH, hf⟩ => by
    rw [k_htake] at he hs hr hH
    exact ⟨A, c, D, d, he, hs, hr, hH, hf⟩
set_option maxRecDepth 100000 in
set_option maxHeartbeats 4000000 in
theorem agknown (w : World) : Calls Try.prog 16 #[] w fun e w' => e = .returned (.bool true) ∧ Fr No w w' := by
  go_enter Try.func16, Try.ntmps16
  go_wp2_with (first
    | (go_at_call 31; refine (newHub_01 _).mono ?_; rintro e w1 ⟨hp, hm, rfl, hH, hq1, hq2, hf1⟩)
    | (go_at_call 32
       refine (newAgent_10 _).mono ?_
       rintro e w2 ⟨aq, rfl, hA, hq3, hf2⟩
       have HXA : Hid (HAt w2 hp hm aq ⟨.slice none 0 0, [], .slice none 0 0, []⟩ kh0 ka0) := Lib.hid ⟨hH.fr0 hf2, hA, fun k h1 h2 => by
         have := hH.lt k h1
         rcases h2 with h | h | h
         · omega
         · simp at h
         · cases h⟩
       have HFA := Lib.hid (hf1.trans hf2)
       have HLH : Hid (∀ k, HubF hp hm (.slice none 0 0) [] k → w.heap.size ≤ k) := Lib.hid (by
         rintro k (h | h | h | h)
         · omega
         · omega
         · simp at h
         · cases h)
       have HLA : Hid (∀ k, AgF aq (.slice none 0 0) [] k → w.heap.size ≤ k) := Lib.hid (by
         rintro k (h | h | h)
         · have := hf1.size; omega
         · simp at h
         · cases h)
       clear hH hA hf1 hf2)
    | (go_at_call 6; apply stopHere))
  unfold StopHere
  refine (k_ask HXA.out.hub).mono ?_
  rintro e w3 ⟨u3, bs3, rfl, hH3, hf3, hF3⟩
  have HX3 := Lib.hid (HXA.out.turnH (h' := kh1) hH3 hf3 hF3)
  have HF3 := Lib.hid (HFA.out.step hf3 fun k hk => .inr (HLH.out k hk))
  have HLH3 : Hid (∀ k, HubF hp hm u3 bs3 k → w.heap.size ≤ k) := Lib.hid fun k hk => (hF3 k hk).elim (HLH.out k) fun h => Nat.le_trans HFA.out.size h
  have HMB4 := Lib.hid (Blk.new w3 26 km.vals)
  have HX4 := Lib.hid (HX3.out.fr0 ((Fr.refl No w3).alloc (Obj.cells km.vals.toArray 26)))
  have HF4 := Lib.hid (HF3.out.alloc (Obj.cells km.vals.toArray 26))
  clear hH3 hf3 hF3
  go_wp2_with (go_at_call 9; apply stopHere)
  unfold StopHere
  refine (k_atake HX4.out.ag).mono ?_
  rintro e w5 ⟨u5, bs5, A5, c5, rfl, hS5, hA5, hf5, hF5⟩
  have HX5 := Lib.hid (HX4.out.turnA (a' := ka1) hA5 hf5 hF5)
  have HMB5 := Lib.hid (HMB4.out.fr hf5 (fun e => HX4.out.ag.no_msg _ _ _ HMB4.out e))
  have HF5 := Lib.hid (HF4.out.step hf5 fun k hk => .inr (HLA.out k hk))
  have HLA5 : Hid (∀ k, AgF aq u5 bs5 k → w.heap.size ≤ k) := Lib.hid fun k hk => (hF5 k hk).elim (HLA.out k) fun h => Nat.le_trans HF4.out.size h
  have HS5 := Lib.hid hS5
  clear hS5 hA5 hf5 hF5
  go_wp2_with (go_at_call 11; apply stopHere)
  unfold StopHere
  refine (k_early_ HX5.out.ag).mono ?_
  rintro e w6 ⟨A6, c6, rfl, hA6, hf6⟩
  have HX6 := Lib.hid (HX5.out.turnA (a' := ka1) hA6 hf6 fun k h => .inl h)
  have HMB6 := Lib.hid (HMB5.out.fr hf6 (fun e => HX5.out.ag.no_msg _ _ _ HMB5.out e))
  have HF6 := Lib.hid (HF5.out.step hf6 fun k hk => .inr (HLA5.out k hk))
  have HS6 := Lib.hid (HS5.out.fr hf6 HX5.out.ag.no_msg)
  clear hA6 hf6
  go_wp2_with (go_at_call 11; apply stopHere)
  unfold StopHere
  refine (k_late_ HX6.out.ag).mono ?_
  rintro e w7 ⟨A7, c7, rfl, hS7, hA7, hf7⟩
  have HX7 := Lib.hid (HX6.out.turnA (a' := ka2) hA7 hf7 fun k h => .inl h)
  have HMB7 := Lib.hid (HMB6.out.fr hf7 (fun e => HX6.out.ag.no_msg _ _ _ HMB6.out e))
  have HF7 := Lib.hid (HF6.out.step hf7 fun k hk => .inr (HLA5.out k hk))
  have HL7 := Lib.hid (HS6.out.fr hf7 HX6.out.ag.no_msg)
  have HS7 := Lib.hid hS7
  obtain ⟨g7, o7, rfl, hg7, ⟨m0, m1, m2, m3, m4, m5, m6, m7⟩⟩ := msg_cells (k := 0) (x := sayM 1 0 3 1 3) hS7 rfl
  simp only [Nat.zero_mul, Nat.add_zero] at m0 m1 m2 m3 m4 m5 m6 m7
  clear hS7 hA7 hf7
  go_wp2_with (go_at_call 7; apply stopHere)
  unfold StopHere
  refine (k_htake_ HX7.out.hub).mono ?_
  rintro e w8 ⟨A8, c8, D8, d8, rfl, hS8, hR8, hH8, hf8⟩
  have HX8 := Lib.hid (HX7.out.turnH (h' := kh2) hH8 hf8 fun k h => .inl h)
  have hM8 := HMB7.out.fr hf8 (fun e => HX7.out.hub.no_msg _ _ _ HMB7.out e)
  have HMB8 := Lib.hid hM8
  have HF8 := Lib.hid (HF7.out.step hf8 fun k hk => .inr (HLH3.out k hk))
  have hL8 := HL7.out.fr hf8 HX7.out.hub.no_msg
  have hT8 := HS7.out.fr hf8 HX7.out.hub.no_msg
  obtain ⟨ga, oa, rfl, hga, ⟨a0, a1, a2, a3, a4, a5, a6, a7⟩⟩ := msg_cells (k := 0) (x := sayM 1 0 2 1 0) hL8 rfl
  obtain ⟨gb, ob, hAb, hgb, ⟨b0, b1, b2, b3, b4, b5, b6, b7⟩⟩ := msg_cells (k := 0) (x := sayM 1 0 3 1 3) hT8 rfl
  injection hAb with hAb
  injection hAb with hAb1 hAb2
  subst hAb1 hAb2
  obtain ⟨gc, oc, rfl, hgc, ⟨p0, p1, p2, p3, p4, p5, p6, p7⟩⟩ := msg_cells (k := 0) (x := sayM 0 1 4 1 0) hS8 rfl
  obtain ⟨gd, od, rfl, hgd, hrc, _⟩ := hR8.cells (by omega)
  have r0 := hrc 0 (.int .i64 1) rfl
  have r1 := hrc 1 (.int .i64 3) rfl
  have q2 := hM8.cell 2
  have ql := hM8.lt
  simp only [Nat.zero_mul, Nat.add_zero, List.getElem?_cons_zero, List.getElem?_cons_succ] at a2 b2 p2 r0 q2
  clear hS8 hR8 hH8 hf8 hM8 hL8 hT8 hrc a0 a1 a3 a4 a5 a6 a7 b0 b1 b3 b4 b5 b6 b7 p0 p1 p3 p4 p5 p6 p7 m0 m1 m2 m3 m4 m5 m6 m7
  go_wp2_with (go_at_call 12; apply stopHere)
  unfold StopHere
  refine (openN_any hp hm u3 bs3 kh2 _ HX8.out.hub).mono ?_
  rintro e w9 ⟨he, hf9⟩
  rw [k_open] at he
  obtain rfl := he
  have HX9 := Lib.hid (HX8.out.fr0 hf9)
  have HMB9 := Lib.hid (HMB8.out.fr hf9 (fun h => h))
  have HF9 := Lib.hid (HF8.out.trans hf9)
  clear hf9 q2 ql a2 b2 p2 r0 r1
  go_wp2_with (go_at_call 13; apply stopHere)
  unfold StopHere
  refine (low_any hp hm u3 bs3 kh2 _ HX9.out.hub (by decide) (by decide)).mono ?_
  rintro e w10 ⟨he, hf10⟩
  rw [k_low] at he
  obtain rfl := he
  have hM10 := HMB9.out.fr hf10 (fun h => h)
  have q2 := hM10.cell 2
  have ql := hM10.lt
  simp only [List.getElem?_cons_zero, List.getElem?_cons_succ] at q2
  have HF10 := Lib.hid (HF9.out.trans hf10)
  clear hf10 hM10
  go_wp2
  go_ret
  exact ⟨rfl, HF10.out⟩
end Go.Proofs.Ytohnchkoldbpcaa

/- agent, AgentOnce: the walk. -/
namespace Go.Proofs.Ytohnchkoldbpcaa
open Go Go.RowKit Go.Proofs

theorem steps_at {w : World} {t : TypeId} {A : Option Addr} {n : Nat} {l : List AStep} (h : Sl w t 2 A n (l.flatMap AStep.vals)) {k : Nat} {x : AStep} (hx : l[k]? = some x) :
    ∃ b o, A = some ⟨b, o, none⟩ ∧ b < w.heap.size ∧ w.cell? ⟨b, o + k * 2, none⟩ = some (.int .i64 x.kind) ∧ w.cell? ⟨b, o + k * 2 + 1, none⟩ = some (.int .i64 x.n) := by
  have vl : ∀ l : List AStep, (l.flatMap AStep.vals).length = l.length * 2 := fun l => by
    induction l with
    | nil => rfl
    | cons a l ih => simp only [List.flatMap_cons, List.length_append, ih, List.length_cons, List.length_nil]; omega
  have va : ∀ (l : List AStep) (k : Nat), l[k]? = some x → ∀ j, j < 2 → (l.flatMap AStep.vals)[k * 2 + j]? = x.vals[j]? := fun l => by
    induction l with
    | nil => intro k hk; cases hk
    | cons a l ih =>
      intro k hk j hj
      rw [List.flatMap_cons]
      cases k with
      | zero =>
        simp only [List.getElem?_cons_zero, Option.some.injEq] at hk
        subst hk
        rw [List.getElem?_append_left (by simp; omega)]
        simp
      | succ k =>
        rw [List.getElem?_append_right (by simp; omega)]
        simp only [List.length_cons, List.length_nil]
        rw [show (k + 1) * 2 + j - (0 + 1 + 1) = k * 2 + j by omega]
        exact ih k (by simpa using hk) j hj
  have hk := (List.getElem?_eq_some_iff.1 hx).1
  have hn : 0 < n := by have := h.1; rw [vl] at this; omega
  obtain ⟨b, o, rfl, hb, hc, _⟩ := h.cells hn
  refine ⟨b, o, rfl, hb, ?_, ?_⟩
  · have := hc (k * 2 + 0) (.int .i64 x.kind) (by rw [va l k hx 0 (by omega)]; rfl)
    simpa using this
  · have := hc (k * 2 + 1) (.int .i64 x.n) (by rw [va l k hx 1 (by omega)]; rfl)
    rw [Nat.add_assoc]
    exact this
def OnRel (w : World) (p0 : Nat) (N : Nat) (g : Nat) (v4 : Value) (wr : World) : Prop :=
  ∃ (i : Nat) (b : PlB) (p : PlayS), i + g = N ∧ i ≤ 200 ∧ v4 = .int .i64 i ∧ b.p0 = p0 ∧ PlAt w.heap.size wr b p ∧ Inv p ∧ NumB (100 + 7 * i) i p ∧ Fr No w wr
def InRel (B : Nat) (b : PlB) (p : PlayS) (w : World) (g : Nat) (v5 : Value) (wr : World) : Prop :=
  ∃ k : Nat, k + g = p.seen.length ∧ v5 = .int .i64 k ∧ PlAt B wr b p ∧ Fr No w wr
set_option maxRecDepth 100000 in
set_option maxHeartbeats 4000000 in
theorem agentOnce_walk (A : Option Addr) (c : Nat) (t : TypeId) (ss : List AStep) (w : World) (hs : Sl w t 2 A ss.length (ss.flatMap AStep.vals)) (ho : ∀ s ∈ ss, s.Ok) (hl : ss.length ≤ maxLen) :
    Calls Try.prog 5 #[.slice A ss.length c] w fun e w' => e = .returned (.bool true) ∧ Fr No w w' := by
  have HS := Lib.hid hs
  have HO := Lib.hid ho
  have hl0 : (0 : Int) ≤ (ss.length : Int) := by omega
  have hl1 : (ss.length : Int) ≤ 9223372036854775807 := by simp only [maxLen] at hl; omega
  clear hs ho hl
  go_enter Try.func5, Try.ntmps5
  go_wp2_with (go_at_call 17; apply stopHere)
  unfold StopHere
  refine (begin_any _).mono ?_
  rintro e w1 ⟨b0, rfl, hX1, hf1⟩
  obtain ⟨p0, hp0⟩ : ∃ p0, p0 = b0.p0 := ⟨_, rfl⟩
  rw [← hp0]
  have HP0 := Lib.hid hp0
  have HX1 := Lib.hid hX1
  have HF1 := Lib.hid hf1
  clear hX1 hf1 hp0
  go_wp2
  go_loopg [4] ss.length (fun g v4 wr => OnRel w p0 ss.length g v4 wr)
  case atStart => exact ⟨0, b0, beginS, by omega, by omega, rfl, HP0.out.symm, HX1.out.fr0 (by (repeat (first | exact Fr.refl _ _ | assumption | refine Fr.drew ?_ | refine Fr.drewL ?_ | refine Fr.alloc ?_ _))), inv_begin, numB_begin.mono (by omega) (Nat.le_refl _), HF1.out.trans (by (repeat (first | exact Fr.refl _ _ | assumption | refine Fr.drew ?_ | refine Fr.drewL ?_ | refine Fr.alloc ?_ _)))⟩
  case round =>
    obtain ⟨i, b, p, hgi, hi200, rfl, hb, hX, hI, hM, hF⟩ := hrel
    have HB := Lib.hid hb
    have HX := Lib.hid hX
    have HI := Lib.hid hI
    have HM := Lib.hid hM
    have HF := Lib.hid hF
    have hi0 : (0 : Int) ≤ (i : Int) := by omega
    clear hb hX hI hM hF
    by_cases hgo : i < ss.length ∧ i < 200
    · obtain ⟨hi, hi2⟩ := hgo
      have hi1 : (i : Int) < (ss.length : Int) := by omega
      have hi3 : (i : Int) < 200 := by omega
      obtain ⟨s, hss⟩ : ∃ s, ss[i]? = some s := ⟨_, List.getElem?_eq_getElem hi⟩
      obtain ⟨g1, o1, rfl, hg1, m0, m1⟩ := steps_at (HS.out.fr0 HF.out) hss
      have HSO := Lib.hid (HO.out s (List.mem_of_getElem? hss))
      clear hss
      go_wp2_with (go_at_call 18; apply stopHere)
      unfold StopHere
      have hst := lstep_any _ b p _ HX.out HI.out HM.out (by omega) (by omega) s HSO.out
      rw [HB.out] at hst
      refine hst.mono ?_
      clear hst
      rintro e w3 ⟨b3, ⟨v3, rfl⟩, hb3, hX3, hF3⟩
      have HX3 := Lib.hid hX3
      have HI3 := Lib.hid (inv_step HI.out s)
      have HM3 : Hid (NumB (100 + 7 * ((i + 1 : Nat) : Int)) (i + 1) (stepS p s)) := Lib.hid ((HM.out.step s).mono (by omega) (Nat.le_refl _))
      have HF3 := Lib.hid (HF.out.step hF3 fun k hk => .inr (HX.out.low k hk))
      have HB3 := Lib.hid (hb3.trans HB.out)
      obtain ⟨p3, hp3⟩ : ∃ p3, p3 = stepS p s := ⟨_, rfl⟩
      rw [← hp3] at HX3 HI3 HM3
      have HA3 := Lib.hid (inv_asks HI3.out)
      have y1 := HX3.out.blk.cell 1
      have y4 := HX3.out.blk.cell 4
      have y6 := HX3.out.blk.cell 6
      have y7 := HX3.out.blk.cell 7
      have yl := HX3.out.blk.lt
      simp only [List.getElem?_cons_zero, List.getElem?_cons_succ] at y1 y4 y6 y7
      rw [HA3.out.1] at y7
      rw [hb3, HB.out] at y1 y4 y6 y7 yl
      have hlen : decide ((64 : Int) < (p3.a.l.length : Int)) = false := by have := HA3.out.2.1; simp only [decide_eq_false_iff_not]; omega
      have hlen2 : ¬ 64 < p3.a.l.length := by have := HA3.out.2.1; omega
      have hbg : decide (p3.run < (p3.a.begun : Int)) = false := by have := HA3.out.2.2.1; simp only [decide_eq_false_iff_not]; omega
      clear hX3 hF3 hp3 m0 m1 hg1
      go_wp2
      refine wp_region_o [(0, 0), (1, 0), (2, 0), (3, 1), (4, 0), (5, 0), (6, 0), (7, 0), (8, 1), (9, 2), (10, 1), (11, 0), (12, 0), (13, 0), (14, 0), (15, 0), (16, 0), (19, 0), (20, 0), (21, 0), (17, 1), (22, 1), (18, 2), (23, 0), (24, 0)] (by kernel_rfl) (by kernel_rfl) ?_
      repeat (first
        | (apply wpO_pure rfl rfl; (focus (intro w'; go_simp; (try rfl); done)); try simp only [Act.put, List.setIfInBounds_toArray, List.set_cons_zero, List.set_cons_succ])
        | (apply wpO_read rfl rfl; (focus (intro w' hf' hs'; (try simp only [World.size_drew, World.cell?_drew, World.size_alloc, World.size_setCell] at hs'); go_simp; (try rfl); done)); try simp only [Act.put, List.setIfInBounds_toArray, List.set_cons_zero, List.set_cons_succ])
        | (apply wpO_skip (by decide) rfl rfl; try simp only [Act.put, List.setIfInBounds_toArray, List.set_cons_zero, List.set_cons_succ]))
      refine wpO_loudE rfl fun K hK => ?_
      go_simp
      refine (aglist_any b3.aq b3.au b3.abs p3.a _ (HX3.out.fr0 (by (repeat (first | exact Fr.refl _ _ | assumption | refine Fr.drew ?_ | refine Fr.drewL ?_ | refine Fr.alloc ?_ _)))).ag (by have := HA3.out.2.1; omega)).mono ?_
      rintro e w5 ⟨v5, rfl, hO5, hf5⟩
      refine hK _ _ ⟨hf5, ?_⟩
      clear hK K
      obtain ⟨A5, c5, rfl, _⟩ := own_shape hO5
      have HX5 := Lib.hid ((HX3.out.fr0 ((Fr.refl No w3).drew)).fr0 hf5)
      have HF5 := Lib.hid (HF3.out.drew.trans hf5)
      clear y1 y4 y6 y7 yl hf5 hO5
      have y1 := HX5.out.blk.cell 1
      have y4 := HX5.out.blk.cell 4
      have yl := HX5.out.blk.lt
      simp only [List.getElem?_cons_zero, List.getElem?_cons_succ] at y1 y4
      rw [hb3, HB.out] at y1 y4 yl
      repeat (first
        | (apply wpO_pure rfl rfl; (focus (intro w'; go_simp; (try rfl); done)); try simp only [Act.put, List.setIfInBounds_toArray, List.set_cons_zero, List.set_cons_succ])
        | (apply wpO_read rfl rfl; (focus (intro w' hf' hs'; (try simp only [World.size_drew, World.cell?_drew, World.size_alloc, World.size_setCell] at hs'); go_simp; (try rfl); done)); try simp only [Act.put, List.setIfInBounds_toArray, List.set_cons_zero, List.set_cons_succ])
        | (apply wpO_skip (by decide) rfl rfl; try simp only [Act.put, List.setIfInBounds_toArray, List.set_cons_zero, List.set_cons_succ]))
      refine wpO_loudE rfl fun K hK => ?_
      go_simp
      refine (begun_any b3.aq b3.au b3.abs p3.a _ HX5.out.ag).mono ?_
      rintro e w6 ⟨rfl, hf6⟩
      refine hK _ _ ⟨hf6, ?_⟩
      clear hK K
      have HX6 := Lib.hid (HX5.out.fr0 hf6)
      have HF6 := Lib.hid (HF5.out.trans hf6)
      clear hf6 y1 y4 yl
      repeat (first
        | (apply wpO_pure rfl rfl; (focus (intro w'; go_simp; (try rfl); done)); try simp only [Act.put, List.setIfInBounds_toArray, List.set_cons_zero, List.set_cons_succ])
        | (apply wpO_read rfl rfl; (focus (intro w' hf' hs'; (try simp only [World.size_drew, World.cell?_drew, World.size_alloc, World.size_setCell] at hs'); go_simp; (try rfl); done)); try simp only [Act.put, List.setIfInBounds_toArray, List.set_cons_zero, List.set_cons_succ])
        | (apply wpO_skip (by decide) rfl rfl; try simp only [Act.put, List.setIfInBounds_toArray, List.set_cons_zero, List.set_cons_succ]))
      refine wpO_nil ?_
      have HB3' := Lib.hid hb3
      clear hb3
      go_wp2
      go_loopg [5] p3.seen.length (fun g v5 wr => InRel w.heap.size b3 p3 w6 g v5 wr)
      case atStart => exact ⟨0, by omega, rfl, HX6.out.fr0 (by (repeat (first | exact Fr.refl _ _ | assumption | refine Fr.drew ?_ | refine Fr.drewL ?_ | refine Fr.alloc ?_ _))), by (repeat (first | exact Fr.refl _ _ | assumption | refine Fr.drew ?_ | refine Fr.drewL ?_ | refine Fr.alloc ?_ _))⟩
      case round =>
        obtain ⟨k, hgk, rfl, hX7, hF7⟩ := hrel
        have hk0 : (0 : Int) ≤ (k : Int) := by omega
        obtain ⟨As, cs, hvs, _⟩ := own_shape hX7.seen
        have y6 := hX7.blk.cell 6
        have yl := hX7.blk.lt
        simp only [List.getElem?_cons_zero, List.getElem?_cons_succ] at y6
        rw [hvs] at y6
        rw [HB3'.out, HB.out] at y6 yl
        have hsl : (p3.seen.length : Int) ≤ 9223372036854775807 := by rw [HI3.out.h.seenL]; have := HM3.out.hl; omega
        have hsl0 : (0 : Int) ≤ (p3.seen.length : Int) := by omega
        by_cases hk : k < p3.seen.length
        · have hk1 : (k : Int) < (p3.seen.length : Int) := by omega
          obtain ⟨x, hx⟩ : ∃ x, p3.seen[k]? = some x := ⟨_, List.getElem?_eq_getElem hk⟩
          obtain ⟨gs, curs, hAs, hBs, hcs⟩ := row_cell (A := As) (c := cs) (n := p3.seen.length) (by have h1 := hX7.seen; rw [hvs] at h1; exact h1) hx rfl
          subst hAs
          have s1 := hBs.cell k
          have s2 := hBs.lt
          rw [hcs] at s1
          have hx1 : decide ((1 : Int) < x) = false := by have := HA3.out.2.2.2 k x hx; simp only [decide_eq_false_iff_not]; omega
          have HX7 := Lib.hid hX7
          have HF7 := Lib.hid hF7
          clear hX7 hF7 hvs hBs hcs hx
          go_wp2
          go_roundg (p3.seen.length - (k + 1))
          case measure => omega
          case rel => exact ⟨k + 1, by omega, by go_num, HX7.out.fr0 (by (repeat (first | exact Fr.refl _ _ | assumption | refine Fr.drew ?_ | refine Fr.drewL ?_ | refine Fr.alloc ?_ _))), HF7.out.trans (by (repeat (first | exact Fr.refl _ _ | assumption | refine Fr.drew ?_ | refine Fr.drewL ?_ | refine Fr.alloc ?_ _)))⟩
        · obtain rfl : k = p3.seen.length := by omega
          have HX7 := Lib.hid hX7
          have HF7 := Lib.hid hF7
          have hnn : ¬ ((p3.seen.length : Int) < (p3.seen.length : Int)) := by omega
          clear hX7 hF7 hvs hgk hk
          go_wp2
          go_roundg (ss.length - (i + 1))
          case measure => omega
          case rel => exact ⟨i + 1, b3, p3, by omega, by omega, by go_num, HB3.out, HX7.out.fr0 (by (repeat (first | exact Fr.refl _ _ | assumption | refine Fr.drew ?_ | refine Fr.drewL ?_ | refine Fr.alloc ?_ _))), HI3.out, HM3.out, (HF6.out.trans HF7.out).trans (by (repeat (first | exact Fr.refl _ _ | assumption | refine Fr.drew ?_ | refine Fr.drewL ?_ | refine Fr.alloc ?_ _)))⟩
    · have HGO := Lib.hid hgo
      have hcond : decide ((i : Int) < (ss.length : Int)) = false ∨ (decide ((i : Int) < (ss.length : Int)) = true ∧ decide ((i : Int) < 200) = false) := by
        by_cases h1 : i < ss.length
        · refine .inr ⟨by simp only [decide_eq_true_eq]; omega, by simp only [decide_eq_false_iff_not]; omega⟩
        · refine .inl (by simp only [decide_eq_false_iff_not]; omega)
      clear hgo
      rcases hcond with h1 | ⟨h1, h2⟩
      · have h1' : ¬ i < ss.length := by simp only [decide_eq_false_iff_not] at h1; omega
        clear hgi
        go_wp2_with (go_at_call 16; apply stopHere)
        unfold StopHere
        refine (agknown _).mono ?_
        rintro e w9 ⟨rfl, hf9⟩
        have HF9 := Lib.hid (HF.out.trans hf9)
        clear hf9
        go_wp2
        go_ret
        exact ⟨rfl, HF9.out⟩
      · have h1' : i < ss.length := by simp only [decide_eq_true_eq] at h1; omega
        have h2' : ¬ i < 200 := by simp only [decide_eq_false_iff_not] at h2; omega
        clear hgi
        go_wp2_with (go_at_call 16; apply stopHere)
        unfold StopHere
        refine (agknown _).mono ?_
        rintro e w9 ⟨rfl, hf9⟩
        have HF9 := Lib.hid (HF.out.trans hf9)
        clear hf9
        go_wp2
        go_ret
        exact ⟨rfl, HF9.out⟩
end Go.Proofs.Ytohnchkoldbpcaa

/- What an argument's reading tells of its cells. -/
namespace Go.Proofs.Ytohnchkoldbpcaa
open Go Go.RowKit Go.ChangeShapes Go.WideShapes Go.Deep

section
variable {H : Type} {enc : TypeId × Value → H} {P : Program} {w : World} {base : Nat} {spare : Nat → Bool} {held : Bool}
/-- these cells read as a value of type t -/
def Rd (enc : TypeId × Value → H) (P : Program) (w : World) (base : Nat) (spare : Nat → Bool) (held : Bool) (t : TypeId) (cs : List Value) : Prop :=
  ∃ fuel x, DataW.trod enc P w base spare held fuel t cs = some x
theorem Rd.int {t : TypeId} {k : IntKind} {cs : List Value} (h : Rd enc P w base spare held t cs) (ht : P.underlying t = some (.int k)) : ∃ n, cs = [.int k n] ∧ (Lit.int k n).wf = true := by
  obtain ⟨f, x, h⟩ := h
  obtain ⟨n, h1, _, h2⟩ := DataW.trod_int ht h
  exact ⟨n, h1, h2⟩
theorem Rd.bool {t : TypeId} {cs : List Value} (h : Rd enc P w base spare held t cs) (ht : P.underlying t = some .bool) : ∃ b, cs = [.bool b] := by
  obtain ⟨f, x, h⟩ := h
  obtain ⟨n, h1, _⟩ := DataW.trod_bool ht h
  exact ⟨n, h1⟩
theorem Rd.string {t : TypeId} {cs : List Value} (h : Rd enc P w base spare held t cs) (ht : P.underlying t = some .string) : ∃ s : ByteArray, cs = [.string s] ∧ s.size ≤ maxLen := by
  obtain ⟨f, x, h⟩ := h
  obtain ⟨n, h1, _, h2⟩ := DataW.trod_string ht h
  exact ⟨n, h1, h2⟩
theorem Rd.struct {t : TypeId} {fs : Array Field} {cs : List Value} (h : Rd enc P w base spare held t cs) (ht : P.underlying t = some (.struct fs)) :
    cs.length = P.cellsOf t ∧ ∀ (i : Nat) (f : Field), fs[i]? = some f → Rd enc P w base spare held f.type ((cs.drop f.offset).take (P.cellsOf f.type)) := by
  obtain ⟨fuel, x, h⟩ := h
  obtain ⟨xs, n, _, _, h1, h2, h3⟩ := DataW.trod_struct ht h
  refine ⟨h1, fun i f hf => ?_⟩
  have h4 := h3 i f hf
  have hi := (Array.getElem?_eq_some_iff.1 hf).1
  rw [List.getElem?_eq_getElem (by omega)] at h4
  exact ⟨n, _, h4⟩
theorem list_of {α : Type} {p : Nat → α → Prop} : ∀ (n : Nat), (∀ i, i < n → ∃ x, p i x) → ∃ xs : List α, xs.length = n ∧ ∀ i x, xs[i]? = some x → p i x
  | 0, _ => ⟨[], rfl, fun i x h => by simp at h⟩
  | n + 1, h => by
    obtain ⟨xs, hl, hx⟩ := list_of n fun i hi => h i (by omega)
    obtain ⟨y, hy⟩ := h n (by omega)
    refine ⟨xs ++ [y], by simp [hl], fun i x hi => ?_⟩
    rcases Nat.lt_or_ge i xs.length with h1 | h1
    · rw [List.getElem?_append_left h1] at hi
      exact hx i x hi
    · rw [List.getElem?_append_right h1] at hi
      have : i - xs.length = 0 := by
        have := (List.getElem?_eq_some_iff.1 hi).1
        simp at this
        omega
      rw [this] at hi
      simp at hi
      subst hi
      have : i = n := by omega
      rw [this]
      exact hy
theorem flat_at {α : Type} (f : α → List Value) (sz : Nat) (hf : ∀ x, (f x).length = sz) {l : List α} {k : Nat} {x : α} (hx : l[k]? = some x) (j : Nat) (hj : j < sz) : (l.flatMap f)[k * sz + j]? = (f x)[j]? := by
  induction l generalizing k with
  | nil => simp at hx
  | cons m l ih =>
    cases k with
    | zero =>
      simp only [List.getElem?_cons_zero, Option.some.injEq] at hx
      subst hx
      simp only [List.flatMap_cons, Nat.zero_mul, Nat.zero_add]
      rw [List.getElem?_append_left (by rw [hf]; exact hj)]
    | succ k =>
      simp only [List.getElem?_cons_succ] at hx
      have e : (k + 1) * sz + j = (k * sz + j) + sz := by rw [Nat.add_mul]; omega
      rw [e]
      simp only [List.flatMap_cons]
      rw [List.getElem?_append_right (by rw [hf]; omega), hf]
      simpa using ih hx
theorem flat_len {α : Type} (f : α → List Value) (sz : Nat) (hf : ∀ x, (f x).length = sz) (l : List α) : (l.flatMap f).length = l.length * sz := by
  induction l with
  | nil => simp
  | cons m l ih => simp only [List.flatMap_cons, List.length_append, ih, hf, List.length_cons, Nat.add_mul]; omega
/-- a slice whose elements read as something known -/
theorem Rd.slice {α : Type} (f : α → List Value) {p : α → Prop} {t e : TypeId} {cs : List Value} (sz : Nat) (hsz : 0 < sz) (h : Rd enc P w base spare held t cs) (ht : P.underlying t = some (.slice e)) (hc : P.cellsOf e = sz) (hf : ∀ x, (f x).length = sz)
    (he : ∀ cs', Rd enc P w base spare held e cs' → ∃ x, cs' = f x ∧ p x) :
    ∃ (A : Option Addr) (n c : Nat) (xs : List α) (e' : TypeId), cs = [.slice A n c] ∧ (A = none → n = 0 ∧ c = 0) ∧ n ≤ c ∧ c ≤ maxLen ∧ xs.length = n ∧ Sl w e' sz A n (xs.flatMap f) ∧ ∀ x ∈ xs, p x := by
  obtain ⟨fuel, x, h⟩ := h
  rcases open_slice ht h with ⟨rfl, _⟩ | ⟨a, len, cap, m, n, D, Pl, rfl, _, hl, hm, hmm, _, hi⟩
  · exact ⟨none, 0, 0, [], 0, rfl, fun _ => ⟨rfl, rfl⟩, Nat.le_refl _, by simp [maxLen], rfl, Sl.nil _ _ _ _, by simp⟩
  · have hlm : len ≤ m := by rw [hmm]; split <;> omega
    have h1 : ∀ i, i < len → ∃ x, p x ∧ ∀ j, j < sz → w.cell? (a.add (i * sz + j)) = (f x)[j]? := fun i hil => by
      obtain ⟨cs', hc', ht'⟩ := hi i (by omega)
      rw [hc] at hc'
      obtain ⟨x, rfl, hp⟩ := he cs' ⟨n, _, ht'⟩
      obtain ⟨_, _, hcell⟩ := World.cells?_some hc'
      refine ⟨x, hp, fun j hj => ?_⟩
      rw [← hcell j hj, Go.Deep.add_add]
    obtain ⟨xs, hxl, hxs⟩ := list_of len h1
    have hp : ∀ x ∈ xs, p x := fun x hx => by
      obtain ⟨i, hi'⟩ := List.getElem?_of_mem hx
      exact (hxs i x hi').1
    rcases Nat.eq_zero_or_pos len with h0 | h0
    · subst h0
      have : xs = [] := List.eq_nil_of_length_eq_zero hxl
      subst this
      exact ⟨some a, 0, cap, [], 0, rfl, by simp, hl, hm, rfl, Sl.nil _ _ _ _, by simp⟩
    · have hx0 : xs[0]? = some xs[0] := List.getElem?_eq_getElem (by omega)
      have hfl := hf xs[0]
      have hc0 : w.cell? (a.add 0) = (f xs[0])[0]? := by simpa using (hxs 0 _ hx0).2 0 hsz
      have ha0 : a.add 0 = a := by simp [Addr.add]
      rw [ha0, List.getElem?_eq_getElem (by omega)] at hc0
      obtain ⟨b, o, sp⟩ := a
      have hcells : ∃ cur e' fr, w.heap[b]? = some (Obj.cells cur e' fr) ∧ sp = none := by
        unfold World.cell? at hc0
        split at hc0
        · rename_i cur e' fr hh
          refine ⟨cur, e', fr, hh, ?_⟩
          cases sp with
          | none => rfl
          | some q => simp at hc0
        · cases hc0
      obtain ⟨cur, e', fr, hh, rfl⟩ := hcells
      refine ⟨some ⟨b, o, none⟩, len, cap, xs, e', rfl, by simp, hl, hm, hxl, ⟨by rw [flat_len f sz hf, hxl], fun _ => ⟨b, o, cur, fr, rfl, hh, fun j u hu => ?_⟩⟩, hp⟩
      have hjl := (List.getElem?_eq_some_iff.1 hu).1
      rw [flat_len f sz hf] at hjl
      have hq : j / sz < xs.length := Nat.div_lt_of_lt_mul (by rw [Nat.mul_comm]; exact hjl)
      have hxq : xs[j / sz]? = some xs[j / sz] := List.getElem?_eq_getElem hq
      have hj : (j / sz) * sz + j % sz = j := by rw [Nat.mul_comm]; exact Nat.div_add_mod j sz
      have h2 := (hxs _ _ hxq).2 (j % sz) (Nat.mod_lt _ hsz)
      rw [hj] at h2
      rw [← flat_at f sz hf hxq (j % sz) (Nat.mod_lt _ hsz), hj, hu, add_off, cell_of_row w b (o + j) cur e' fr hh] at h2
      exact h2
end
end Go.Proofs.Ytohnchkoldbpcaa

/- messages that come in. -/
namespace Go.Proofs.Ytohnchkoldbpcaa
open Go Go.RowKit Go.Proofs Go.ChangeShapes Go.WideShapes Go.Deep

theorem refMsg_und : Try.prog.underlying 23 = some (.struct (Try.prog.fieldsOf 23)) := by kernel_rfl
theorem refMsg_fields : (Try.prog.fieldsOf 23).toList.map (fun f => (f.type, f.offset)) = [(3, 0), (3, 1), (3, 2), (2, 3), (2, 4), (2, 5), (2, 6), (9, 7)] := by kernel_rfl
theorem i3_und : Try.prog.underlying 3 = some (.int .i64) := by kernel_rfl
theorem i2_und : Try.prog.underlying 2 = some (.int .i64) := by kernel_rfl
theorem str_und : Try.prog.underlying 9 = some .string := by kernel_rfl
section
variable {H : Type} {enc : TypeId × Value → H} {w : World} {base : Nat} {spare : Nat → Bool} {held : Bool}
set_option maxRecDepth 100000 in
theorem rd_msg {cs : List Value} (h : Rd enc Try.prog w base spare held 23 cs) : ∃ x : Msg, cs = x.vals := by
  have hfs := refMsg_fields
  obtain ⟨hlen, hf⟩ := h.struct refMsg_und
  generalize Try.prog.fieldsOf 23 = fs at hfs hf
  have hc : Try.prog.cellsOf 23 = 8 := by kernel_rfl
  have c3 : Try.prog.cellsOf 3 = 1 := by kernel_rfl
  have c2 : Try.prog.cellsOf 2 = 1 := by kernel_rfl
  have c9 : Try.prog.cellsOf 9 = 1 := by kernel_rfl
  rw [hc] at hlen
  match cs, hlen with
  | [a0, a1, a2, a3, a4, a5, a6, a7], _ =>
    have key : ∀ (i : Nat) (ty o : Nat), (fs.toList.map (fun f => (f.type, f.offset)))[i]? = some (ty, o) → Rd enc Try.prog w base spare held ty (([a0, a1, a2, a3, a4, a5, a6, a7].drop o).take (Try.prog.cellsOf ty)) := by
      intro i ty o hi
      rw [List.getElem?_map] at hi
      cases hfi : fs.toList[i]? with
      | none => rw [hfi] at hi; cases hi
      | some f =>
        rw [hfi] at hi
        simp only [Option.map_some, Option.some.injEq, Prod.mk.injEq] at hi
        obtain ⟨rfl, rfl⟩ := hi
        exact hf i f (by simpa using hfi)
    rw [hfs] at key
    have k0 := key 0 3 0 rfl
    have k1 := key 1 3 1 rfl
    have k2 := key 2 3 2 rfl
    have k3 := key 3 2 3 rfl
    have k4 := key 4 2 4 rfl
    have k5 := key 5 2 5 rfl
    have k6 := key 6 2 6 rfl
    have k7 := key 7 9 7 rfl
    simp only [c2, c3, c9, List.drop_succ_cons, List.drop_zero, List.take_succ_cons, List.take_zero] at k0 k1 k2 k3 k4 k5 k6 k7
    obtain ⟨n0, e0, _⟩ := k0.int i3_und
    obtain ⟨n1, e1, _⟩ := k1.int i3_und
    obtain ⟨n2, e2, _⟩ := k2.int i3_und
    obtain ⟨n3, e3, _⟩ := k3.int i2_und
    obtain ⟨n4, e4, _⟩ := k4.int i2_und
    obtain ⟨n5, e5, _⟩ := k5.int i2_und
    obtain ⟨n6, e6, _⟩ := k6.int i2_und
    obtain ⟨s, e7, _⟩ := k7.string str_und
    simp only [List.cons.injEq, and_true] at e0 e1 e2 e3 e4 e5 e6 e7
    subst e0 e1 e2 e3 e4 e5 e6 e7
    exact ⟨⟨n0, n1, n2, n3, n4, n5, n6, s⟩, rfl⟩
end
end Go.Proofs.Ytohnchkoldbpcaa
namespace Go.Proofs.Ytohnchkoldbpcaa
open Go Go.RowKit Go.Proofs Go.ChangeShapes Go.WideShapes Go.Deep
theorem flat_one {α : Type} (f : α → Value) (l : List α) : l.flatMap (fun y => [f y]) = l.map f := by
  induction l with
  | nil => rfl
  | cons a l ih => simp only [List.flatMap_cons, List.map_cons, ih, List.cons_append, List.nil_append]
theorem wf_i64 {n : Int} (h : (Lit.int .i64 n).wf = true) : -9223372036854775808 ≤ n ∧ n ≤ 9223372036854775807 := by
  simp only [Lit.wf, IntKind.min, IntKind.max, IntKind.signed, IntKind.bits] at h
  simp at h
  omega
section
variable {H : Type} {enc : TypeId × Value → H} {w : World} {base : Nat} {spare : Nat → Bool} {held : Bool}
theorem rd_ints {v : Value} {d : DataW H} {p : List MemPlace} (h : DataW.Trod enc Try.prog w base spare held 52 v d p) (hv : ∃ a l c, v = .slice a l c) :
    ∃ (A : Option Addr) (c : Nat) (xs : List Int) (e : TypeId), v = .slice A xs.length c ∧ xs.length ≤ maxLen ∧ Sl w e 1 A xs.length (xs.map (Value.int .i64)) ∧ ∀ y ∈ xs, -9223372036854775808 ≤ y ∧ y ≤ 9223372036854775807 := by
  obtain ⟨a, l, c, rfl⟩ := hv
  obtain ⟨fuel, hf⟩ := h
  obtain ⟨A, n, c', xs, e', h1, _, h3, h4, rfl, h6, h7⟩ := Rd.slice (p := fun y => -9223372036854775808 ≤ y ∧ y ≤ 9223372036854775807) (fun y : Int => [Value.int .i64 y]) 1 (by omega) ⟨fuel, _, hf⟩ Try.underlying52 (by kernel_rfl) (fun _ => rfl)
    (fun cs' hr => by obtain ⟨x, hx, hw⟩ := hr.int i3_und; exact ⟨x, hx, wf_i64 hw⟩)
  simp only [Value.cells, List.cons.injEq, and_true] at h1
  rw [flat_one] at h6
  exact ⟨A, c', xs, e', h1, by omega, h6, h7⟩
end
end Go.Proofs.Ytohnchkoldbpcaa

/- steps that come in. -/
namespace Go.Proofs.Ytohnchkoldbpcaa
open Go Go.RowKit Go.Proofs Go.ChangeShapes Go.WideShapes Go.Deep

theorem step_und : Try.prog.underlying 49 = some (.struct (Try.prog.fieldsOf 49)) := by kernel_rfl
theorem step_fields : (Try.prog.fieldsOf 49).toList.map (fun f => (f.type, f.offset)) = [(3, 0), (3, 1)] := by kernel_rfl
section
variable {H : Type} {enc : TypeId × Value → H} {w : World} {base : Nat} {spare : Nat → Bool} {held : Bool}
set_option maxRecDepth 100000 in
theorem rd_step {cs : List Value} (h : Rd enc Try.prog w base spare held 49 cs) : ∃ x : AStep, cs = x.vals ∧ x.Ok := by
  have hfs := step_fields
  obtain ⟨hlen, hf⟩ := h.struct step_und
  generalize Try.prog.fieldsOf 49 = fs at hfs hf
  have hc : Try.prog.cellsOf 49 = 2 := by kernel_rfl
  have c3 : Try.prog.cellsOf 3 = 1 := by kernel_rfl
  rw [hc] at hlen
  match cs, hlen with
  | [a0, a1], _ =>
    have key : ∀ (i : Nat) (ty o : Nat), (fs.toList.map (fun f => (f.type, f.offset)))[i]? = some (ty, o) → Rd enc Try.prog w base spare held ty (([a0, a1].drop o).take (Try.prog.cellsOf ty)) := by
      intro i ty o hi
      rw [List.getElem?_map] at hi
      cases hfi : fs.toList[i]? with
      | none => rw [hfi] at hi; cases hi
      | some f =>
        rw [hfi] at hi
        simp only [Option.map_some, Option.some.injEq, Prod.mk.injEq] at hi
        obtain ⟨rfl, rfl⟩ := hi
        exact hf i f (by simpa using hfi)
    rw [hfs] at key
    have k0 := key 0 3 0 rfl
    have k1 := key 1 3 1 rfl
    simp only [c3, List.drop_succ_cons, List.drop_zero, List.take_succ_cons, List.take_zero] at k0 k1
    obtain ⟨n0, e0, _⟩ := k0.int i3_und
    obtain ⟨n1, e1, w1⟩ := k1.int i3_und
    simp only [List.cons.injEq, and_true] at e0 e1
    subst e0 e1
    exact ⟨⟨n0, n1⟩, rfl, wf_i64 w1⟩
theorem rd_steps {v : Value} {d : DataW H} {p : List MemPlace} (h : DataW.Trod enc Try.prog w base spare held 44 v d p) (hv : ∃ a l c, v = .slice a l c) :
    ∃ (A : Option Addr) (c : Nat) (xs : List AStep) (e : TypeId), v = .slice A xs.length c ∧ xs.length ≤ maxLen ∧ Sl w e 2 A xs.length (xs.flatMap AStep.vals) ∧ ∀ x ∈ xs, x.Ok := by
  obtain ⟨a, l, c, rfl⟩ := hv
  obtain ⟨fuel, hf⟩ := h
  obtain ⟨A, n, c', xs, e', h1, _, h3, h4, rfl, h6, h7⟩ := Rd.slice (p := fun x : AStep => x.Ok) AStep.vals 2 (by omega) ⟨fuel, _, hf⟩ Try.underlying44 (by kernel_rfl) (fun _ => rfl) (fun cs' hr => rd_step hr)
  simp only [Value.cells, List.cons.injEq, and_true] at h1
  exact ⟨A, c', xs, e', h1, by omega, h6, h7⟩
end
end Go.Proofs.Ytohnchkoldbpcaa
