import Derived.Test.YtohnchkoldbpcaaQC3
set_option linter.unusedVariables false
set_option linter.unusedSimpArgs false
/- agent, the law: step, all but Ask and the clock. -/
namespace Go.Proofs.Ytohnchkoldbpcaa
open Go Go.RowKit Go.Proofs

def PlB.F (b : PlB) (k : Nat) : Prop := b.H k ∨ b.A k ∨ b.N k ∨ b.P k
theorem come_any (B : Nat) (b : PlB) (p : PlayS) (w : World) (X : PlAt B w b p) (I : Inv p) {K : Int} {R : Nat} (M : NumB K R p) (hKK : K ≤ 1000000) (hR : R ≤ 1000000) (k : Nat) (hk : k < p.n.length) :
    Calls Try.prog 20 #[.pointer (some ⟨b.p0, 0, none⟩), .int .i64 (k : Int)] w fun e w' => ∃ b', (∃ v, e = .returned v) ∧ b'.p0 = b.p0 ∧ PlAt B w' b' (comeS p k) ∧ Fr b.F w w' := by
  have hm : p.n[k]? = some p.n[k] := List.getElem?_eq_getElem hk
  by_cases ht : p.n[k].to_ = 1
  · exact comeA_any B b p w X I M hKK hR k _ hm ht
  · exact comeH_any B b p w X I M hKK hR k _ hm ht
/-- what a step leaves -/
def StepOut (B : Nat) (w w' : World) (b : PlB) (p' : PlayS) (e : Ending) : Prop := ∃ b', (∃ v, e = .returned v) ∧ b'.p0 = b.p0 ∧ PlAt B w' b' p' ∧ Fr b.F w w'
abbrev AStep.val (s : AStep) : Value := .agg #[.int .i64 s.kind, .int .i64 s.n]
abbrev AStep.vals (s : AStep) : List Value := [.int .i64 s.kind, .int .i64 s.n]
def AStep.Ok (s : AStep) : Prop := -9223372036854775808 ≤ s.n ∧ s.n ≤ 9223372036854775807
theorem countI_nat (n : Int) {l : Nat} (hl : 0 < l) : ∃ k : Nat, countI n l = (k : Int) ∧ k < l ∧ (countI n l).toNat = k := by
  have h := countI_range n l (by omega)
  exact ⟨(countI n l).toNat, by omega, by omega, rfl⟩
theorem count_to {k n c : Int} (hc : countI k n = c) (w : World) (hk : -9223372036854775808 ≤ k) (hk' : k ≤ 9223372036854775807) (hn : 0 < n) (hn' : n ≤ 2147483648) :
    Calls Try.prog 34 #[.int .i64 k, .int .i64 n] w fun e w' => e = .returned (.int .i64 c) ∧ Fr No w w' := by
  subst hc
  exact count_any k n w hk hk' hn hn'
set_option maxRecDepth 100000 in
set_option maxHeartbeats 2000000 in
theorem lstep_come (B : Nat) (b : PlB) (p : PlayS) (w : World) (X : PlAt B w b p) (I : Inv p) {K : Int} {R : Nat} (M : NumB K R p) (hKK : K ≤ 1000000) (hR : R ≤ 1000000) (s : AStep) (ho : s.Ok) (hk : 2 ≤ s.kind ∧ s.kind ≤ 5) :
    Calls Try.prog 18 #[.pointer (some ⟨b.p0, 0, none⟩), s.val] w fun e w' => StepOut B w w' b (stepS p s) e := by
  have HX := Lib.hid (X.fr0 ((Fr.refl No w).alloc (Obj.cells s.vals.toArray 49)))
  have HI := Lib.hid I
  have HM := Lib.hid M
  have HO := Lib.hid ho
  have HSB := Lib.hid (Blk.new w 49 s.vals)
  have c2 := X.blk.cell 2
  have cl := X.blk.lt
  simp only [List.getElem?_cons_zero, List.getElem?_cons_succ] at c2
  have HST : Hid (stepS p s = if 0 < p.n.length then comeS p (countI s.n p.n.length).toNat else p) := Lib.hid (by
    unfold stepS
    rw [if_neg (by omega), if_pos hk])
  have k0 : (s.kind == 0) = false := by simp; omega
  have k1 : (s.kind == 1) = false := by simp; omega
  clear X I M ho
  obtain ⟨sk, sn⟩ := s
  rcases (by simp only at hk; omega : sk = 2 ∨ sk = 3 ∨ sk = 4 ∨ sk = 5) with rfl | rfl | rfl | rfl
  · skip
    by_cases hl : 0 < p.n.length
    · have hl1 : (0 : Int) < (p.n.length : Int) := by omega
      obtain ⟨k, hc, hkl, hct⟩ := countI_nat sn hl
      have HC := Lib.hid hc
      have HCT := Lib.hid hct
      have HL := Lib.hid hl
      clear hc hct
      go_enter Try.func18, Try.ntmps18
      go_wp2_with (go_at_call 19
                   refine (len_any b.np b.nm p.n [] _ HX.out.net).mono ?_
                   rintro e w2 ⟨rfl, hf2⟩
                   have HX2 := Lib.hid (HX.out.fr0 hf2)
                   have HS2 := Lib.hid (HSB.out.fr hf2 (fun h => h))
                   have HF2 : Hid (Fr No w w2) := Lib.hid (((Fr.refl No w).alloc _).trans hf2)
                   have z0 := HS2.out.cell 1
                   have zl := HS2.out.lt
                   have zz := HS2.out.frozens
                   have y2 := HX2.out.blk.cell 2
                   have yl := HX2.out.blk.lt
                   simp only [List.getElem?_cons_zero, List.getElem?_cons_succ] at z0 y2
                   clear hf2)
      refine wp_region_o [(0, 0), (1, 0), (3, 0), (4, 0), (5, 0), (2, 1), (6, 1), (7, 2), (8, 2), (9, 3)] (by kernel_rfl) (by kernel_rfl) ?_
      repeat (first
        | (apply wpO_pure rfl rfl; (focus (intro w'; go_simp; (try rfl); done)); try simp only [Act.put, List.setIfInBounds_toArray, List.set_cons_zero, List.set_cons_succ])
        | (apply wpO_read rfl rfl; (focus (intro w' hf' hs'; (try simp only [World.size_drew, World.cell?_drew, World.size_alloc, World.size_setCell] at hs'); go_simp; (try rfl); done)); try simp only [Act.put, List.setIfInBounds_toArray, List.set_cons_zero, List.set_cons_succ])
        | (apply wpO_skip (by decide) rfl rfl; try simp only [Act.put, List.setIfInBounds_toArray, List.set_cons_zero, List.set_cons_succ]))
      refine wpO_loudE rfl fun K hK => ?_
      go_simp
      refine (len_any b.np b.nm p.n [] _ (HX2.out.fr0 (by (repeat (first | exact Fr.refl _ _ | assumption | refine Fr.drew ?_ | refine Fr.drewL ?_ | refine Fr.alloc ?_ _)))).net).mono ?_
      rintro e w3 ⟨rfl, hf3⟩
      refine hK _ _ ⟨hf3, ?_⟩
      clear hK K
      refine wpO_loudE rfl fun K hK => ?_
      go_simp
      refine (count_to HC.out _ HO.out.1 HO.out.2 (by omega) (by have := HM.out.net; omega)).mono ?_
      rintro e w4 ⟨rfl, hf4⟩
      refine hK _ _ ⟨hf4, ?_⟩
      clear hK K
      have HF4 := Lib.hid (HF2.out.trans (Fr.trans (by (repeat (first | exact Fr.refl _ _ | assumption | refine Fr.drew ?_ | refine Fr.drewL ?_ | refine Fr.alloc ?_ _))) (hf3.trans hf4)))
      refine wpO_loud rfl fun K hK => ?_
      go_simp
      refine (come_any B b p _ (((HX2.out.fr0 ((Fr.refl No w2).drew)).fr0 hf3).fr0 hf4) HI.out HM.out hKK hR k hkl).mono ?_
      rintro e w5 ⟨b', ⟨v5, rfl⟩, hb', hX5, hF5⟩
      refine hK _ _ ?_
      clear hK K
      refine wpO_nil ?_
      go_wp2
      refine bodyPost_end (v := .tuple #[]) (by simp [results, Try.results18, go_sem]) rfl ⟨b', ⟨_, rfl⟩, hb', ?_, (HF4.out.any _).trans hF5⟩
      rw [HST.out, if_pos HL.out, HCT.out]
      exact hX5
    · have hl1 : ¬ (0 : Int) < (p.n.length : Int) := by omega
      have HL := Lib.hid hl
      go_enter Try.func18, Try.ntmps18
      go_wp2_with (go_at_call 19
                   refine (len_any b.np b.nm p.n [] _ HX.out.net).mono ?_
                   rintro e w2 ⟨rfl, hf2⟩
                   have HX2 := Lib.hid (HX.out.fr0 hf2)
                   have HS2 := Lib.hid (HSB.out.fr hf2 (fun h => h))
                   have HF2 : Hid (Fr No w w2) := Lib.hid (((Fr.refl No w).alloc _).trans hf2)
                   have z0 := HS2.out.cell 1
                   have zl := HS2.out.lt
                   have zz := HS2.out.frozens
                   have y2 := HX2.out.blk.cell 2
                   have yl := HX2.out.blk.lt
                   simp only [List.getElem?_cons_zero, List.getElem?_cons_succ] at z0 y2
                   clear hf2)
      refine bodyPost_end (v := .tuple #[]) (by simp [results, Try.results18, go_sem]) rfl ⟨b, ⟨_, rfl⟩, rfl, ?_, HF2.out.any _⟩
      rw [HST.out, if_neg HL.out]
      exact HX2.out
  · skip
    by_cases hl : 0 < p.n.length
    · have hl1 : (0 : Int) < (p.n.length : Int) := by omega
      obtain ⟨k, hc, hkl, hct⟩ := countI_nat sn hl
      have HC := Lib.hid hc
      have HCT := Lib.hid hct
      have HL := Lib.hid hl
      clear hc hct
      go_enter Try.func18, Try.ntmps18
      go_wp2_with (go_at_call 19
                   refine (len_any b.np b.nm p.n [] _ HX.out.net).mono ?_
                   rintro e w2 ⟨rfl, hf2⟩
                   have HX2 := Lib.hid (HX.out.fr0 hf2)
                   have HS2 := Lib.hid (HSB.out.fr hf2 (fun h => h))
                   have HF2 : Hid (Fr No w w2) := Lib.hid (((Fr.refl No w).alloc _).trans hf2)
                   have z0 := HS2.out.cell 1
                   have zl := HS2.out.lt
                   have zz := HS2.out.frozens
                   have y2 := HX2.out.blk.cell 2
                   have yl := HX2.out.blk.lt
                   simp only [List.getElem?_cons_zero, List.getElem?_cons_succ] at z0 y2
                   clear hf2)
      refine wp_region_o [(0, 0), (1, 0), (3, 0), (4, 0), (5, 0), (2, 1), (6, 1), (7, 2), (8, 2), (9, 3)] (by kernel_rfl) (by kernel_rfl) ?_
      repeat (first
        | (apply wpO_pure rfl rfl; (focus (intro w'; go_simp; (try rfl); done)); try simp only [Act.put, List.setIfInBounds_toArray, List.set_cons_zero, List.set_cons_succ])
        | (apply wpO_read rfl rfl; (focus (intro w' hf' hs'; (try simp only [World.size_drew, World.cell?_drew, World.size_alloc, World.size_setCell] at hs'); go_simp; (try rfl); done)); try simp only [Act.put, List.setIfInBounds_toArray, List.set_cons_zero, List.set_cons_succ])
        | (apply wpO_skip (by decide) rfl rfl; try simp only [Act.put, List.setIfInBounds_toArray, List.set_cons_zero, List.set_cons_succ]))
      refine wpO_loudE rfl fun K hK => ?_
      go_simp
      refine (len_any b.np b.nm p.n [] _ (HX2.out.fr0 (by (repeat (first | exact Fr.refl _ _ | assumption | refine Fr.drew ?_ | refine Fr.drewL ?_ | refine Fr.alloc ?_ _)))).net).mono ?_
      rintro e w3 ⟨rfl, hf3⟩
      refine hK _ _ ⟨hf3, ?_⟩
      clear hK K
      refine wpO_loudE rfl fun K hK => ?_
      go_simp
      refine (count_to HC.out _ HO.out.1 HO.out.2 (by omega) (by have := HM.out.net; omega)).mono ?_
      rintro e w4 ⟨rfl, hf4⟩
      refine hK _ _ ⟨hf4, ?_⟩
      clear hK K
      have HF4 := Lib.hid (HF2.out.trans (Fr.trans (by (repeat (first | exact Fr.refl _ _ | assumption | refine Fr.drew ?_ | refine Fr.drewL ?_ | refine Fr.alloc ?_ _))) (hf3.trans hf4)))
      refine wpO_loud rfl fun K hK => ?_
      go_simp
      refine (come_any B b p _ (((HX2.out.fr0 ((Fr.refl No w2).drew)).fr0 hf3).fr0 hf4) HI.out HM.out hKK hR k hkl).mono ?_
      rintro e w5 ⟨b', ⟨v5, rfl⟩, hb', hX5, hF5⟩
      refine hK _ _ ?_
      clear hK K
      refine wpO_nil ?_
      go_wp2
      refine bodyPost_end (v := .tuple #[]) (by simp [results, Try.results18, go_sem]) rfl ⟨b', ⟨_, rfl⟩, hb', ?_, (HF4.out.any _).trans hF5⟩
      rw [HST.out, if_pos HL.out, HCT.out]
      exact hX5
    · have hl1 : ¬ (0 : Int) < (p.n.length : Int) := by omega
      have HL := Lib.hid hl
      go_enter Try.func18, Try.ntmps18
      go_wp2_with (go_at_call 19
                   refine (len_any b.np b.nm p.n [] _ HX.out.net).mono ?_
                   rintro e w2 ⟨rfl, hf2⟩
                   have HX2 := Lib.hid (HX.out.fr0 hf2)
                   have HS2 := Lib.hid (HSB.out.fr hf2 (fun h => h))
                   have HF2 : Hid (Fr No w w2) := Lib.hid (((Fr.refl No w).alloc _).trans hf2)
                   have z0 := HS2.out.cell 1
                   have zl := HS2.out.lt
                   have zz := HS2.out.frozens
                   have y2 := HX2.out.blk.cell 2
                   have yl := HX2.out.blk.lt
                   simp only [List.getElem?_cons_zero, List.getElem?_cons_succ] at z0 y2
                   clear hf2)
      refine bodyPost_end (v := .tuple #[]) (by simp [results, Try.results18, go_sem]) rfl ⟨b, ⟨_, rfl⟩, rfl, ?_, HF2.out.any _⟩
      rw [HST.out, if_neg HL.out]
      exact HX2.out
  · skip
    by_cases hl : 0 < p.n.length
    · have hl1 : (0 : Int) < (p.n.length : Int) := by omega
      obtain ⟨k, hc, hkl, hct⟩ := countI_nat sn hl
      have HC := Lib.hid hc
      have HCT := Lib.hid hct
      have HL := Lib.hid hl
      clear hc hct
      go_enter Try.func18, Try.ntmps18
      go_wp2_with (go_at_call 19
                   refine (len_any b.np b.nm p.n [] _ HX.out.net).mono ?_
                   rintro e w2 ⟨rfl, hf2⟩
                   have HX2 := Lib.hid (HX.out.fr0 hf2)
                   have HS2 := Lib.hid (HSB.out.fr hf2 (fun h => h))
                   have HF2 : Hid (Fr No w w2) := Lib.hid (((Fr.refl No w).alloc _).trans hf2)
                   have z0 := HS2.out.cell 1
                   have zl := HS2.out.lt
                   have zz := HS2.out.frozens
                   have y2 := HX2.out.blk.cell 2
                   have yl := HX2.out.blk.lt
                   simp only [List.getElem?_cons_zero, List.getElem?_cons_succ] at z0 y2
                   clear hf2)
      refine wp_region_o [(0, 0), (1, 0), (3, 0), (4, 0), (5, 0), (2, 1), (6, 1), (7, 2), (8, 2), (9, 3)] (by kernel_rfl) (by kernel_rfl) ?_
      repeat (first
        | (apply wpO_pure rfl rfl; (focus (intro w'; go_simp; (try rfl); done)); try simp only [Act.put, List.setIfInBounds_toArray, List.set_cons_zero, List.set_cons_succ])
        | (apply wpO_read rfl rfl; (focus (intro w' hf' hs'; (try simp only [World.size_drew, World.cell?_drew, World.size_alloc, World.size_setCell] at hs'); go_simp; (try rfl); done)); try simp only [Act.put, List.setIfInBounds_toArray, List.set_cons_zero, List.set_cons_succ])
        | (apply wpO_skip (by decide) rfl rfl; try simp only [Act.put, List.setIfInBounds_toArray, List.set_cons_zero, List.set_cons_succ]))
      refine wpO_loudE rfl fun K hK => ?_
      go_simp
      refine (len_any b.np b.nm p.n [] _ (HX2.out.fr0 (by (repeat (first | exact Fr.refl _ _ | assumption | refine Fr.drew ?_ | refine Fr.drewL ?_ | refine Fr.alloc ?_ _)))).net).mono ?_
      rintro e w3 ⟨rfl, hf3⟩
      refine hK _ _ ⟨hf3, ?_⟩
      clear hK K
      refine wpO_loudE rfl fun K hK => ?_
      go_simp
      refine (count_to HC.out _ HO.out.1 HO.out.2 (by omega) (by have := HM.out.net; omega)).mono ?_
      rintro e w4 ⟨rfl, hf4⟩
      refine hK _ _ ⟨hf4, ?_⟩
      clear hK K
      have HF4 := Lib.hid (HF2.out.trans (Fr.trans (by (repeat (first | exact Fr.refl _ _ | assumption | refine Fr.drew ?_ | refine Fr.drewL ?_ | refine Fr.alloc ?_ _))) (hf3.trans hf4)))
      refine wpO_loud rfl fun K hK => ?_
      go_simp
      refine (come_any B b p _ (((HX2.out.fr0 ((Fr.refl No w2).drew)).fr0 hf3).fr0 hf4) HI.out HM.out hKK hR k hkl).mono ?_
      rintro e w5 ⟨b', ⟨v5, rfl⟩, hb', hX5, hF5⟩
      refine hK _ _ ?_
      clear hK K
      refine wpO_nil ?_
      go_wp2
      refine bodyPost_end (v := .tuple #[]) (by simp [results, Try.results18, go_sem]) rfl ⟨b', ⟨_, rfl⟩, hb', ?_, (HF4.out.any _).trans hF5⟩
      rw [HST.out, if_pos HL.out, HCT.out]
      exact hX5
    · have hl1 : ¬ (0 : Int) < (p.n.length : Int) := by omega
      have HL := Lib.hid hl
      go_enter Try.func18, Try.ntmps18
      go_wp2_with (go_at_call 19
                   refine (len_any b.np b.nm p.n [] _ HX.out.net).mono ?_
                   rintro e w2 ⟨rfl, hf2⟩
                   have HX2 := Lib.hid (HX.out.fr0 hf2)
                   have HS2 := Lib.hid (HSB.out.fr hf2 (fun h => h))
                   have HF2 : Hid (Fr No w w2) := Lib.hid (((Fr.refl No w).alloc _).trans hf2)
                   have z0 := HS2.out.cell 1
                   have zl := HS2.out.lt
                   have zz := HS2.out.frozens
                   have y2 := HX2.out.blk.cell 2
                   have yl := HX2.out.blk.lt
                   simp only [List.getElem?_cons_zero, List.getElem?_cons_succ] at z0 y2
                   clear hf2)
      refine bodyPost_end (v := .tuple #[]) (by simp [results, Try.results18, go_sem]) rfl ⟨b, ⟨_, rfl⟩, rfl, ?_, HF2.out.any _⟩
      rw [HST.out, if_neg HL.out]
      exact HX2.out
  · skip
    by_cases hl : 0 < p.n.length
    · have hl1 : (0 : Int) < (p.n.length : Int) := by omega
      obtain ⟨k, hc, hkl, hct⟩ := countI_nat sn hl
      have HC := Lib.hid hc
      have HCT := Lib.hid hct
      have HL := Lib.hid hl
      clear hc hct
      go_enter Try.func18, Try.ntmps18
      go_wp2_with (go_at_call 19
                   refine (len_any b.np b.nm p.n [] _ HX.out.net).mono ?_
                   rintro e w2 ⟨rfl, hf2⟩
                   have HX2 := Lib.hid (HX.out.fr0 hf2)
                   have HS2 := Lib.hid (HSB.out.fr hf2 (fun h => h))
                   have HF2 : Hid (Fr No w w2) := Lib.hid (((Fr.refl No w).alloc _).trans hf2)
                   have z0 := HS2.out.cell 1
                   have zl := HS2.out.lt
                   have zz := HS2.out.frozens
                   have y2 := HX2.out.blk.cell 2
                   have yl := HX2.out.blk.lt
                   simp only [List.getElem?_cons_zero, List.getElem?_cons_succ] at z0 y2
                   clear hf2)
      refine wp_region_o [(0, 0), (1, 0), (3, 0), (4, 0), (5, 0), (2, 1), (6, 1), (7, 2), (8, 2), (9, 3)] (by kernel_rfl) (by kernel_rfl) ?_
      repeat (first
        | (apply wpO_pure rfl rfl; (focus (intro w'; go_simp; (try rfl); done)); try simp only [Act.put, List.setIfInBounds_toArray, List.set_cons_zero, List.set_cons_succ])
        | (apply wpO_read rfl rfl; (focus (intro w' hf' hs'; (try simp only [World.size_drew, World.cell?_drew, World.size_alloc, World.size_setCell] at hs'); go_simp; (try rfl); done)); try simp only [Act.put, List.setIfInBounds_toArray, List.set_cons_zero, List.set_cons_succ])
        | (apply wpO_skip (by decide) rfl rfl; try simp only [Act.put, List.setIfInBounds_toArray, List.set_cons_zero, List.set_cons_succ]))
      refine wpO_loudE rfl fun K hK => ?_
      go_simp
      refine (len_any b.np b.nm p.n [] _ (HX2.out.fr0 (by (repeat (first | exact Fr.refl _ _ | assumption | refine Fr.drew ?_ | refine Fr.drewL ?_ | refine Fr.alloc ?_ _)))).net).mono ?_
      rintro e w3 ⟨rfl, hf3⟩
      refine hK _ _ ⟨hf3, ?_⟩
      clear hK K
      refine wpO_loudE rfl fun K hK => ?_
      go_simp
      refine (count_to HC.out _ HO.out.1 HO.out.2 (by omega) (by have := HM.out.net; omega)).mono ?_
      rintro e w4 ⟨rfl, hf4⟩
      refine hK _ _ ⟨hf4, ?_⟩
      clear hK K
      have HF4 := Lib.hid (HF2.out.trans (Fr.trans (by (repeat (first | exact Fr.refl _ _ | assumption | refine Fr.drew ?_ | refine Fr.drewL ?_ | refine Fr.alloc ?_ _))) (hf3.trans hf4)))
      refine wpO_loud rfl fun K hK => ?_
      go_simp
      refine (come_any B b p _ (((HX2.out.fr0 ((Fr.refl No w2).drew)).fr0 hf3).fr0 hf4) HI.out HM.out hKK hR k hkl).mono ?_
      rintro e w5 ⟨b', ⟨v5, rfl⟩, hb', hX5, hF5⟩
      refine hK _ _ ?_
      clear hK K
      refine wpO_nil ?_
      go_wp2
      refine bodyPost_end (v := .tuple #[]) (by simp [results, Try.results18, go_sem]) rfl ⟨b', ⟨_, rfl⟩, hb', ?_, (HF4.out.any _).trans hF5⟩
      rw [HST.out, if_pos HL.out, HCT.out]
      exact hX5
    · have hl1 : ¬ (0 : Int) < (p.n.length : Int) := by omega
      have HL := Lib.hid hl
      go_enter Try.func18, Try.ntmps18
      go_wp2_with (go_at_call 19
                   refine (len_any b.np b.nm p.n [] _ HX.out.net).mono ?_
                   rintro e w2 ⟨rfl, hf2⟩
                   have HX2 := Lib.hid (HX.out.fr0 hf2)
                   have HS2 := Lib.hid (HSB.out.fr hf2 (fun h => h))
                   have HF2 : Hid (Fr No w w2) := Lib.hid (((Fr.refl No w).alloc _).trans hf2)
                   have z0 := HS2.out.cell 1
                   have zl := HS2.out.lt
                   have zz := HS2.out.frozens
                   have y2 := HX2.out.blk.cell 2
                   have yl := HX2.out.blk.lt
                   simp only [List.getElem?_cons_zero, List.getElem?_cons_succ] at z0 y2
                   clear hf2)
      refine bodyPost_end (v := .tuple #[]) (by simp [results, Try.results18, go_sem]) rfl ⟨b, ⟨_, rfl⟩, rfl, ?_, HF2.out.any _⟩
      rw [HST.out, if_neg HL.out]
      exact HX2.out
set_option maxRecDepth 100000 in
set_option maxHeartbeats 2000000 in
theorem lstep_lose (B : Nat) (b : PlB) (p : PlayS) (w : World) (X : PlAt B w b p) {K : Int} {R : Nat} (M : NumB K R p) (s : AStep) (ho : s.Ok) (hk : s.kind = 6) :
    Calls Try.prog 18 #[.pointer (some ⟨b.p0, 0, none⟩), s.val] w fun e w' => StepOut B w w' b (stepS p s) e := by
  have HX := Lib.hid (X.fr0 ((Fr.refl No w).alloc (Obj.cells s.vals.toArray 49)))
  have HM := Lib.hid M
  have HO := Lib.hid ho
  have HSB := Lib.hid (Blk.new w 49 s.vals)
  have c2 := X.blk.cell 2
  have cl := X.blk.lt
  simp only [List.getElem?_cons_zero, List.getElem?_cons_succ] at c2
  have HST : Hid (stepS p s = if 0 < p.n.length then { p with n := p.n.eraseIdx (countI s.n p.n.length).toNat } else p) := Lib.hid (by
    unfold stepS
    rw [if_neg (by omega), if_neg (by omega), if_pos hk])
  clear X M ho
  obtain ⟨sk, sn⟩ := s
  obtain rfl : sk = 6 := hk
  by_cases hl : 0 < p.n.length
  · have hl1 : (0 : Int) < (p.n.length : Int) := by omega
    obtain ⟨k, hc, hkl, hct⟩ := countI_nat sn hl
    have HC := Lib.hid hc
    have HCT := Lib.hid hct
    have HL := Lib.hid hl
    have HIN := Lib.hid (show inL (k : Int) p.n.length = true by unfold inL; simp; omega)
    clear hc hct
    go_enter Try.func18, Try.ntmps18
    go_wp2_with (go_at_call 19
                 refine (len_any b.np b.nm p.n [] _ HX.out.net).mono ?_
                 rintro e w2 ⟨rfl, hf2⟩
                 have HX2 := Lib.hid (HX.out.fr0 hf2)
                 have HS2 := Lib.hid (HSB.out.fr hf2 (fun h => h))
                 have HF2 : Hid (Fr No w w2) := Lib.hid (((Fr.refl No w).alloc _).trans hf2)
                 have z0 := HS2.out.cell 1
                 have zl := HS2.out.lt
                 have zz := HS2.out.frozens
                 have y2 := HX2.out.blk.cell 2
                 have yl := HX2.out.blk.lt
                 simp only [List.getElem?_cons_zero, List.getElem?_cons_succ] at z0 y2
                 clear hf2)
    refine wp_region_o [(0, 0), (1, 0), (2, 0), (4, 0), (6, 0), (7, 0), (8, 0), (3, 1), (5, 1), (9, 1), (10, 2), (11, 2), (12, 3)] (by kernel_rfl) (by kernel_rfl) ?_
    repeat (first
      | (apply wpO_pure rfl rfl; (focus (intro w'; go_simp; (try rfl); done)); try simp only [Act.put, List.setIfInBounds_toArray, List.set_cons_zero, List.set_cons_succ])
      | (apply wpO_read rfl rfl; (focus (intro w' hf' hs'; (try simp only [World.size_drew, World.cell?_drew, World.size_alloc, World.size_setCell] at hs'); go_simp; (try rfl); done)); try simp only [Act.put, List.setIfInBounds_toArray, List.set_cons_zero, List.set_cons_succ])
      | (apply wpO_skip (by decide) rfl rfl; try simp only [Act.put, List.setIfInBounds_toArray, List.set_cons_zero, List.set_cons_succ]))
    refine wpO_loudE rfl fun K hK => ?_
    go_simp
    refine (len_any b.np b.nm p.n [] _ (HX2.out.fr0 (by (repeat (first | exact Fr.refl _ _ | assumption | refine Fr.drew ?_ | refine Fr.drewL ?_ | refine Fr.alloc ?_ _)))).net).mono ?_
    rintro e w3 ⟨rfl, hf3⟩
    refine hK _ _ ⟨hf3, ?_⟩
    clear hK K
    refine wpO_loudE rfl fun K hK => ?_
    go_simp
    refine (count_to HC.out _ HO.out.1 HO.out.2 (by omega) (by have := HM.out.net; omega)).mono ?_
    rintro e w4 ⟨rfl, hf4⟩
    refine hK _ _ ⟨hf4, ?_⟩
    clear hK K
    have HF4 := Lib.hid (HF2.out.trans (Fr.trans (by (repeat (first | exact Fr.refl _ _ | assumption | refine Fr.drew ?_ | refine Fr.drewL ?_ | refine Fr.alloc ?_ _))) (hf3.trans hf4)))
    have HX4 := Lib.hid (((HX2.out.fr0 ((Fr.refl No w2).drew)).fr0 hf3).fr0 hf4)
    refine wpO_loud rfl fun K hK => ?_
    go_simp
    refine (lose_any b.np b.nm p.n [] (k : Int) _ HX4.out.net (by have := HM.out.net; omega)).mono ?_
    rintro e w5 ⟨rfl, hN5, hf5⟩
    refine hK _ _ ?_
    clear hK K
    refine wpO_nil ?_
    go_wp2
    refine bodyPost_end (v := .tuple #[]) (by simp [results, Try.results18, go_sem]) rfl ⟨b, ⟨_, rfl⟩, rfl, ?_, (HF4.out.any _).trans (hf5.mono fun k _ h => .inr (.inr (.inl (.inl h))))⟩
    rw [HST.out, if_pos HL.out, HCT.out]
    rw [HIN.out, if_pos rfl, Int.toNat_natCast] at hN5
    exact HX4.out.turnN hN5 hf5
  · have hl1 : ¬ (0 : Int) < (p.n.length : Int) := by omega
    have HL := Lib.hid hl
    go_enter Try.func18, Try.ntmps18
    go_wp2_with (go_at_call 19
                 refine (len_any b.np b.nm p.n [] _ HX.out.net).mono ?_
                 rintro e w2 ⟨rfl, hf2⟩
                 have HX2 := Lib.hid (HX.out.fr0 hf2)
                 have HS2 := Lib.hid (HSB.out.fr hf2 (fun h => h))
                 have HF2 : Hid (Fr No w w2) := Lib.hid (((Fr.refl No w).alloc _).trans hf2)
                 have z0 := HS2.out.cell 1
                 have zl := HS2.out.lt
                 have zz := HS2.out.frozens
                 have y2 := HX2.out.blk.cell 2
                 have yl := HX2.out.blk.lt
                 simp only [List.getElem?_cons_zero, List.getElem?_cons_succ] at z0 y2
                 clear hf2)
    refine bodyPost_end (v := .tuple #[]) (by simp [results, Try.results18, go_sem]) rfl ⟨b, ⟨_, rfl⟩, rfl, ?_, HF2.out.any _⟩
    rw [HST.out, if_neg HL.out]
    exact HX2.out
set_option maxRecDepth 100000 in
set_option maxHeartbeats 2000000 in
theorem lstep_twice (B : Nat) (b : PlB) (p : PlayS) (w : World) (X : PlAt B w b p) {K : Int} {R : Nat} (M : NumB K R p) (s : AStep) (ho : s.Ok) (hk : s.kind = 7) :
    Calls Try.prog 18 #[.pointer (some ⟨b.p0, 0, none⟩), s.val] w fun e w' => StepOut B w w' b (stepS p s) e := by
  have HX := Lib.hid (X.fr0 ((Fr.refl No w).alloc (Obj.cells s.vals.toArray 49)))
  have HM := Lib.hid M
  have HO := Lib.hid ho
  have HSB := Lib.hid (Blk.new w 49 s.vals)
  have c2 := X.blk.cell 2
  have cl := X.blk.lt
  simp only [List.getElem?_cons_zero, List.getElem?_cons_succ] at c2
  have HST : Hid (stepS p s = if 0 < p.n.length then { p with n := twiceL p.n (countI s.n p.n.length) } else p) := Lib.hid (by
    unfold stepS
    rw [if_neg (by omega), if_neg (by omega), if_neg (by omega), if_pos hk])
  clear X M ho
  obtain ⟨sk, sn⟩ := s
  obtain rfl : sk = 7 := hk
  by_cases hl : 0 < p.n.length
  · have hl1 : (0 : Int) < (p.n.length : Int) := by omega
    obtain ⟨k, hc, hkl, hct⟩ := countI_nat sn hl
    have HC := Lib.hid hc
    have HL := Lib.hid hl
    clear hc hct
    go_enter Try.func18, Try.ntmps18
    go_wp2_with (go_at_call 19
                 refine (len_any b.np b.nm p.n [] _ HX.out.net).mono ?_
                 rintro e w2 ⟨rfl, hf2⟩
                 have HX2 := Lib.hid (HX.out.fr0 hf2)
                 have HS2 := Lib.hid (HSB.out.fr hf2 (fun h => h))
                 have HF2 : Hid (Fr No w w2) := Lib.hid (((Fr.refl No w).alloc _).trans hf2)
                 have z0 := HS2.out.cell 1
                 have zl := HS2.out.lt
                 have zz := HS2.out.frozens
                 have y2 := HX2.out.blk.cell 2
                 have yl := HX2.out.blk.lt
                 simp only [List.getElem?_cons_zero, List.getElem?_cons_succ] at z0 y2
                 clear hf2)
    refine wp_region_o [(0, 0), (1, 0), (2, 0), (4, 0), (6, 0), (7, 0), (8, 0), (3, 1), (5, 1), (9, 1), (10, 2), (11, 2), (12, 3)] (by kernel_rfl) (by kernel_rfl) ?_
    repeat (first
      | (apply wpO_pure rfl rfl; (focus (intro w'; go_simp; (try rfl); done)); try simp only [Act.put, List.setIfInBounds_toArray, List.set_cons_zero, List.set_cons_succ])
      | (apply wpO_read rfl rfl; (focus (intro w' hf' hs'; (try simp only [World.size_drew, World.cell?_drew, World.size_alloc, World.size_setCell] at hs'); go_simp; (try rfl); done)); try simp only [Act.put, List.setIfInBounds_toArray, List.set_cons_zero, List.set_cons_succ])
      | (apply wpO_skip (by decide) rfl rfl; try simp only [Act.put, List.setIfInBounds_toArray, List.set_cons_zero, List.set_cons_succ]))
    refine wpO_loudE rfl fun K hK => ?_
    go_simp
    refine (len_any b.np b.nm p.n [] _ (HX2.out.fr0 (by (repeat (first | exact Fr.refl _ _ | assumption | refine Fr.drew ?_ | refine Fr.drewL ?_ | refine Fr.alloc ?_ _)))).net).mono ?_
    rintro e w3 ⟨rfl, hf3⟩
    refine hK _ _ ⟨hf3, ?_⟩
    clear hK K
    refine wpO_loudE rfl fun K hK => ?_
    go_simp
    refine (count_to HC.out _ HO.out.1 HO.out.2 (by omega) (by have := HM.out.net; omega)).mono ?_
    rintro e w4 ⟨rfl, hf4⟩
    refine hK _ _ ⟨hf4, ?_⟩
    clear hK K
    have HF4 := Lib.hid (HF2.out.trans (Fr.trans (by (repeat (first | exact Fr.refl _ _ | assumption | refine Fr.drew ?_ | refine Fr.drewL ?_ | refine Fr.alloc ?_ _))) (hf3.trans hf4)))
    have HX4 := Lib.hid (((HX2.out.fr0 ((Fr.refl No w2).drew)).fr0 hf3).fr0 hf4)
    refine wpO_loud rfl fun K hK => ?_
    go_simp
    refine (twice_any b.np b.nm p.n [] (k : Int) _ HX4.out.net).mono ?_
    rintro e w5 ⟨rfl, hN5, hf5⟩
    refine hK _ _ ?_
    clear hK K
    refine wpO_nil ?_
    go_wp2
    refine bodyPost_end (v := .tuple #[]) (by simp [results, Try.results18, go_sem]) rfl ⟨b, ⟨_, rfl⟩, rfl, ?_, (HF4.out.any _).trans (hf5.mono fun k _ h => .inr (.inr (.inl (.inl h))))⟩
    rw [HST.out, if_pos HL.out, HC.out]
    exact HX4.out.turnN hN5 hf5
  · have hl1 : ¬ (0 : Int) < (p.n.length : Int) := by omega
    have HL := Lib.hid hl
    go_enter Try.func18, Try.ntmps18
    go_wp2_with (go_at_call 19
                 refine (len_any b.np b.nm p.n [] _ HX.out.net).mono ?_
                 rintro e w2 ⟨rfl, hf2⟩
                 have HX2 := Lib.hid (HX.out.fr0 hf2)
                 have HS2 := Lib.hid (HSB.out.fr hf2 (fun h => h))
                 have HF2 : Hid (Fr No w w2) := Lib.hid (((Fr.refl No w).alloc _).trans hf2)
                 have z0 := HS2.out.cell 1
                 have zl := HS2.out.lt
                 have zz := HS2.out.frozens
                 have y2 := HX2.out.blk.cell 2
                 have yl := HX2.out.blk.lt
                 simp only [List.getElem?_cons_zero, List.getElem?_cons_succ] at z0 y2
                 clear hf2)
    refine bodyPost_end (v := .tuple #[]) (by simp [results, Try.results18, go_sem]) rfl ⟨b, ⟨_, rfl⟩, rfl, ?_, HF2.out.any _⟩
    rw [HST.out, if_neg HL.out]
    exact HX2.out
end Go.Proofs.Ytohnchkoldbpcaa

/- agent, the law: the numbers of a play stay small. -/
namespace Go.Proofs.Ytohnchkoldbpcaa
open Go Go.RowKit Go.Proofs

theorem sendL_len (m : Msg) {n : List Msg} (h : n.length ≤ 64) : (sendL m n).length ≤ 64 := by
  unfold sendL
  split
  · split
    · exact h
    · rw [List.length_append, List.length_singleton]; omega
  · exact h
theorem sendsL_len : ∀ (ms : List Msg) {n : List Msg}, n.length ≤ 64 → (sendsL ms n).length ≤ 64
  | [], _, h => h
  | m :: ms, _, h => sendsL_len ms (sendL_len m h)
theorem twiceL_len {n : List Msg} {i : Int} (h : n.length ≤ 64) : (twiceL n i).length ≤ 64 := by
  unfold twiceL
  split
  · split
    · exact h
    · split
      · rw [List.length_append, List.length_singleton]; omega
      · exact h
  · exact h
theorem erase_len {n : List Msg} {i : Nat} (h : n.length ≤ 64) : (n.eraseIdx i).length ≤ 64 := Nat.le_trans (List.length_eraseIdx_le n i) h
/-- what is sent when, in a list of works -/
def SentA (c : Int) (l : List WorkS) : Prop := ∀ x ∈ l, 0 ≤ x.sent ∧ x.sent ≤ c
def SentH (c : Int) (l : List Req) : Prop := ∀ x ∈ l, 0 ≤ x.sent ∧ x.sent ≤ c
theorem SentA.start {c : Int} {a : AgS} {m : Msg} (h : SentA c a.l) (hc : 0 ≤ c) : SentA c (a.start m c).1.l := by
  have hf : SentA c (a.forget m.low).l := by
    unfold AgS.forget
    split
    · exact fun x hx => h x (List.mem_of_mem_drop hx)
    · exact h
  unfold AgS.start
  split
  · simp only
    split
    · exact hf
    · split
      · rename_i x hx
        split
        · intro z hz
          rcases (List.mem_or_eq_of_mem_set hz).symm with rfl | hz
          · exact ⟨hc, Int.le_refl _⟩
          · exact hf z hz
        · exact hf
      · split
        · exact hf
        · intro z hz
          rcases insA_mem hz with rfl | hz
          · exact ⟨Int.le_refl _, hc⟩
          · exact hf z hz
  · exact h
theorem SentA.take {c : Int} {a : AgS} {m : Msg} (h : SentA c a.l) (hc : 0 ≤ c) : SentA c (a.take m c).1.l := by
  unfold AgS.take
  split
  · split
    · split
      · exact h.start hc
      · split
        · rename_i y hy
          intro z hz
          rcases (List.mem_or_eq_of_mem_set hz).symm with rfl | hz
          · exact h y (List.mem_of_getElem? (atA_some hy).1)
          · exact h z hz
        · exact h
    · exact h
  · exact h
theorem SentH.take {c : Int} {h : HubS} {m : Msg} (hs : SentH c h.l) : SentH c (h.take m).1.l ∧ (h.take m).1.l.length = h.l.length := by
  have key : ∀ (n st : Int), SentH c (setR n st h.l) := fun n st x hx => by
    obtain ⟨r, hr, rfl⟩ := List.mem_map.1 hx
    split
    · exact hs r hr
    · exact hs r hr
  unfold HubS.take
  split
  · split
    · exact ⟨hs, rfl⟩
    · split
      · exact ⟨key _ _, setR_length _ _ _⟩
      · exact ⟨key _ _, setR_length _ _ _⟩
  · exact ⟨hs, rfl⟩
theorem SentA.mono {c c' : Int} {l : List WorkS} (h : SentA c l) (hc : c ≤ c') : SentA c' l := fun x hx => by have := h x hx; omega
theorem SentH.mono {c c' : Int} {l : List Req} (h : SentH c l) (hc : c ≤ c') : SentH c' l := fun x hx => by have := h x hx; omega
theorem SentA.tick {c : Int} {a : AgS} (h : SentA c a.l) (hc : 0 ≤ c) : SentA c (a.tick c).1.l := by
  unfold AgS.tick
  split
  · intro x hx
    obtain ⟨y, hy, rfl⟩ := List.mem_map.1 hx
    split
    · exact ⟨hc, Int.le_refl _⟩
    · exact h y hy
  · exact h
theorem SentH.tick {c : Int} {h : HubS} (hs : SentH c h.l) (hc : 0 ≤ c) : SentH c (h.tick c).1.l := by
  unfold HubS.tick
  split
  · intro x hx
    rcases List.mem_append.1 hx with hx | hx
    · exact hs x (List.mem_of_mem_take hx)
    · obtain ⟨y, hy, rfl⟩ := List.mem_map.1 hx
      split
      · exact ⟨hc, Int.le_refl _⟩
      · exact hs y (List.mem_of_mem_drop hy)
  · exact hs
theorem NumB.sh {K : Int} {R : Nat} {p : PlayS} (h : NumB K R p) : SentH p.clock p.h.l := fun x hx => by
  obtain ⟨i, hi⟩ := List.mem_iff_getElem?.1 hx
  exact h.hs i x hi
theorem NumB.sa {K : Int} {R : Nat} {p : PlayS} (h : NumB K R p) : SentA p.clock p.a.l := fun x hx => by
  obtain ⟨i, hi⟩ := List.mem_iff_getElem?.1 hx
  exact h.ag i x hi
theorem NumB.mk' {K : Int} {R : Nat} {p : PlayS} (h0 : 0 ≤ p.clock) (h1 : p.clock ≤ K) (h2 : SentH p.clock p.h.l) (h3 : SentA p.clock p.a.l) (h4 : p.n.length ≤ 64) (h5 : p.h.l.length ≤ R) : NumB K R p :=
  ⟨h0, h1, fun i r hr => h2 r (List.mem_of_getElem? hr), fun i x hx => h3 x (List.mem_of_getElem? hx), h4, h5⟩
theorem NumB.mono {K K' : Int} {R R' : Nat} {p : PlayS} (h : NumB K R p) (hK : K ≤ K') (hR : R ≤ R') : NumB K' R' p := ⟨h.c0, by have := h.c1; omega, h.hs, h.ag, h.net, by have := h.hl; omega⟩
theorem NumB.tick {K : Int} {R : Nat} {p : PlayS} (h : NumB K R p) : NumB (K + 1) R (tickS p) := by
  have hc : 0 ≤ p.clock + 1 := by have := h.c0; omega
  have h1 := h.c1
  refine NumB.mk' hc (by show p.clock + 1 ≤ K + 1; omega) ((h.sh.mono (show p.clock ≤ p.clock + 1 by omega)).tick hc) ((h.sa.mono (show p.clock ≤ p.clock + 1 by omega)).tick hc) (sendsL_len _ (sendsL_len _ h.net)) ?_
  show (p.h.tick (p.clock + 1)).1.l.length ≤ R
  rw [(tickH_len p.h (p.clock + 1)).1]
  exact h.hl
theorem NumB.ticks : ∀ (k : Nat) {K : Int} {R : Nat} {p : PlayS}, NumB K R p → NumB (K + k) R (ticksS k p)
  | 0, K, R, p, h => h.mono (by omega) (Nat.le_refl _)
  | k + 1, K, R, p, h => (NumB.ticks k h.tick).mono (by omega) (Nat.le_refl _)
theorem ticksS_succ : ∀ (k : Nat) (p : PlayS), ticksS (k + 1) p = tickS (ticksS k p)
  | 0, _ => rfl
  | k + 1, p => ticksS_succ k (tickS p)
theorem repsS_same : ∀ (rs : List (Int × Int)) (p : PlayS), (repsS rs p).h = p.h ∧ (repsS rs p).a = p.a ∧ (repsS rs p).clock = p.clock ∧ (repsS rs p).n = p.n
  | [], _ => ⟨rfl, rfl, rfl, rfl⟩
  | r :: rs, p => by
    have h := repsS_same rs (repS p r)
    have e : (repS p r).h = p.h ∧ (repS p r).a = p.a ∧ (repS p r).clock = p.clock ∧ (repS p r).n = p.n := by
      unfold repS
      split <;> exact ⟨rfl, rfl, rfl, rfl⟩
    rw [e.1, e.2.1, e.2.2.1, e.2.2.2] at h
    exact h
theorem NumB.come {K : Int} {R : Nat} {p : PlayS} (h : NumB K R p) (i : Nat) : NumB K R (comeS p i) := by
  unfold comeS
  split
  · exact h
  · rename_i m hm
    split
    · unfold comeA
      simp only
      split
      · exact NumB.mk' h.c0 h.c1 h.sh (h.sa.take h.c0) (sendsL_len _ (erase_len h.net)) h.hl
      · exact NumB.mk' h.c0 h.c1 h.sh (h.sa.take h.c0) (sendsL_len _ (erase_len h.net)) h.hl
    · unfold comeH
      simp only
      have e := repsS_same (p.h.take m).2.2.1 { p with h := (p.h.take m).1 }
      refine NumB.mk' ?_ ?_ ?_ ?_ (sendsL_len _ (erase_len h.net)) ?_
      · show 0 ≤ (repsS _ _).clock
        rw [e.2.2.1]; exact h.c0
      · show (repsS _ _).clock ≤ K
        rw [e.2.2.1]; exact h.c1
      · show SentH (repsS _ _).clock (repsS _ _).h.l
        rw [e.2.2.1, e.1]; exact h.sh.take.1
      · show SentA (repsS _ _).clock (repsS _ _).a.l
        rw [e.2.2.1, e.2.1]; exact h.sa
      · show (repsS _ _).h.l.length ≤ R
        rw [e.1, h.sh.take.2]; exact h.hl
theorem NumB.ask {K : Int} {R : Nat} {p : PlayS} (h : NumB K R p) (mins : Int) : NumB K (R + 1) (askS p mins) := by
  unfold askS
  split
  · refine NumB.mk' h.c0 h.c1 ?_ h.sa (sendsL_len _ h.net) ?_
    · intro x hx
      rcases List.mem_append.1 hx with hx | hx
      · exact h.sh x hx
      · simp at hx
        subst hx
        exact ⟨h.c0, Int.le_refl _⟩
    · show (p.h.l ++ [newR p mins]).length ≤ R + 1
      rw [List.length_append, List.length_singleton]
      have := h.hl
      omega
  · exact h.mono (Int.le_refl _) (by omega)
theorem NumB.setN {K : Int} {R : Nat} {p : PlayS} (h : NumB K R p) {n : List Msg} (hn : n.length ≤ 64) : NumB K R { p with n := n } := ⟨h.c0, h.c1, h.hs, h.ag, hn, h.hl⟩
theorem NumB.step {K : Int} {R : Nat} {p : PlayS} (h : NumB K R p) (s : AStep) : NumB (K + 7) (R + 1) (stepS p s) := by
  unfold stepS
  split
  · exact (h.ask _).mono (by omega) (Nat.le_refl _)
  · split
    · split
      · exact (h.come _).mono (by omega) (by omega)
      · exact h.mono (by omega) (by omega)
    · split
      · split
        · exact (h.setN (erase_len (i := (countI s.n p.n.length).toNat) h.net)).mono (by omega) (by omega)
        · exact h.mono (by omega) (by omega)
      · split
        · split
          · exact (h.setN (twiceL_len (i := countI s.n p.n.length) h.net)).mono (by omega) (by omega)
          · exact h.mono (by omega) (by omega)
        · have := countI_range s.n 7 (by omega)
          exact (NumB.ticks (countI s.n 7).toNat h).mono (by omega) (by omega)
theorem numB_begin : NumB 100 0 beginS := NumB.mk' (by decide) (by decide) (fun x hx => by cases hx) (fun x hx => by cases hx) (by decide) (by decide)
end Go.Proofs.Ytohnchkoldbpcaa

/- agent, the law: step, the clock goes on. -/
namespace Go.Proofs.Ytohnchkoldbpcaa
open Go Go.RowKit Go.Proofs

/-- the walk stops at an arm that leaves this -/
def StopHere (p : Prop) := p
theorem stopHere {p : Prop} (h : StopHere p) : p := h
def TsRel (B : Nat) (w : World) (b : PlB) (p : PlayS) (N : Nat) (g : Nat) (v6 : Value) (wr : World) : Prop :=
  ∃ i : Nat, i + g = N ∧ v6 = .int .i64 i ∧ PlAt B wr b (ticksS i p) ∧ Fr b.F w wr
set_option maxRecDepth 100000 in
set_option maxHeartbeats 2000000 in
theorem lstep_ticks (B : Nat) (b : PlB) (p : PlayS) (w : World) (X : PlAt B w b p) (I : Inv p) {K : Int} {R : Nat} (M : NumB K R p) (hKK : K + 7 ≤ 1000000) (hR : R ≤ 1000000) (s : AStep) (ho : s.Ok) (hk : s.kind < 0 ∨ 7 < s.kind) :
    Calls Try.prog 18 #[.pointer (some ⟨b.p0, 0, none⟩), s.val] w fun e w' => StepOut B w w' b (stepS p s) e := by
  have HX := Lib.hid (X.fr0 ((Fr.refl No w).alloc (Obj.cells s.vals.toArray 49)))
  have HI := Lib.hid I
  have HM := Lib.hid M
  have HO := Lib.hid ho
  have HSB := Lib.hid (Blk.new w 49 s.vals)
  have hlt : w.heap.size < (w.alloc (Obj.cells s.vals.toArray 49)).heap.size := by simp
  have HNP := Lib.hid (show ∀ k, b.F k → k < w.heap.size from fun k h => by
    rcases h with h | h | h | h
    · exact X.ltH k h
    · exact X.ltA k h
    · exact X.ltN k h
    · exact X.ltP k h)
  have k0 : (s.kind == 0) = false := by simp; omega
  have k1 : (s.kind == 1) = false := by simp; omega
  have k2 : (s.kind == 2) = false := by simp; omega
  have k3 : (s.kind == 3) = false := by simp; omega
  have k4 : (s.kind == 4) = false := by simp; omega
  have k5 : (s.kind == 5) = false := by simp; omega
  have k6 : (s.kind == 6) = false := by simp; omega
  have k7 : (s.kind == 7) = false := by simp; omega
  have hcr := countI_range s.n 7 (by omega)
  obtain ⟨N, hN⟩ : ∃ N, N = (countI s.n 7).toNat := ⟨_, rfl⟩
  have HC := Lib.hid (show countI s.n 7 = (N : Int) by omega)
  have HST : Hid (stepS p s = ticksS N p) := Lib.hid (by
    unfold stepS
    rw [if_neg (by omega), if_neg (by omega), if_neg (by omega), if_neg (by omega), hN])
  have hN7 : N < 7 := by omega
  clear X I M ho hN hcr
  obtain ⟨sk, sn⟩ := s
  simp only at k0 k1 k2 k3 k4 k5 k6 k7
  go_enter Try.func18, Try.ntmps18
  go_wp2
  go_loopg [6] N (fun g v6 wr => TsRel B (w.alloc (Obj.cells (AStep.vals ⟨sk, sn⟩).toArray 49)) b p N g v6 wr)
  case atStart => exact ⟨0, by omega, rfl, HX.out.fr0 (by (repeat (first | exact Fr.refl _ _ | assumption | refine Fr.drew ?_ | refine Fr.drewL ?_ | refine Fr.alloc ?_ _))), by (repeat (first | exact Fr.refl _ _ | assumption | refine Fr.drew ?_ | refine Fr.drewL ?_ | refine Fr.alloc ?_ _))⟩
  case round =>
    obtain ⟨i, hgi, rfl, hX, hF⟩ := hrel
    have HX1 := Lib.hid hX
    have HF1 := Lib.hid hF
    have hi0 : (0 : Int) ≤ (i : Int) := by omega
    have hS1 := HSB.out.fr hF (fun e => by have := HNP.out _ e; omega)
    have HS1 := Lib.hid hS1
    have z1 := hS1.cell 1
    have zl := hS1.lt
    simp only [List.getElem?_cons_zero, List.getElem?_cons_succ] at z1
    clear hX hF hS1
    by_cases hi : i < N
    · have hi1 : (i : Int) < (N : Int) := by omega
      go_wp2_with (first
        | (go_at_call 34
           refine (count_to HC.out _ HO.out.1 HO.out.2 (by omega) (by omega)).mono ?_
           rintro e w2 ⟨rfl, hf2⟩
           have HX2 := Lib.hid (HX1.out.fr0 hf2)
           have HF2 := Lib.hid (HF1.out.trans (hf2.any _))
           clear hf2)
        | (go_at_call 21
           refine (ltick_any B b (ticksS i p) _ HX2.out (inv_ticks i HI.out) (NumB.ticks i HM.out) (by omega) hR).mono ?_
           rintro e w3 ⟨⟨v3, rfl⟩, hX3, hF3⟩))
      go_roundg (N - (i + 1))
      case measure => omega
      case rel => exact ⟨i + 1, by omega, by go_num, by rw [ticksS_succ]; exact hX3, HF2.out.trans hF3⟩
    · obtain rfl : i = N := by omega
      clear hgi hi
      have hnn : ¬ ((i : Int) < (i : Int)) := by omega
      go_wp2_with (go_at_call 34; apply stopHere)
      unfold StopHere
      refine (count_to HC.out _ HO.out.1 HO.out.2 (by omega) (by omega)).mono ?_
      rintro e w2 ⟨rfl, hf2⟩
      go_wp2_with (go_at_call 34; apply stopHere)
      have HX2 := Lib.hid (HX1.out.fr0 hf2)
      have HF2 := Lib.hid (HF1.out.trans (hf2.any _))
      refine bodyPost_end (v := .tuple #[]) (by simp [results, Try.results18, go_sem]) rfl ⟨b, ⟨_, rfl⟩, rfl, ?_, ((((Fr.refl No w).alloc _).any _).trans HF2.out)⟩
      rw [HST.out]
      exact HX2.out
end Go.Proofs.Ytohnchkoldbpcaa

/- agent, the law: step, a run is asked. -/
namespace Go.Proofs.Ytohnchkoldbpcaa
open Go Go.RowKit Go.Proofs

section
variable {B : Nat} {w w' : World} {b : PlB} {p : PlayS}
theorem PlAt.growEnds (X : PlAt B w b p) {v' : Value} {x : Int} (ho : w'.ownsRow B 2 1 v' (p.ends.length + 1) (encN p.ends ++ [.int .i64 x])) (hg : w.grownBy w' b.ve.ownBlock) (hat : v'.ownBlock = b.ve.ownBlock ∨ v'.ownBlock = some w.heap.size) :
    PlAt B (w'.setCell ⟨b.p0, 5, none⟩ v') { b with ve := v' } { p with ends := p.ends ++ [x] } ∧ Fr b.P w (w'.setCell ⟨b.p0, 5, none⟩ v') := by
  have F1 : Fr (fun k => some k = b.ve.ownBlock) w w' := Fr.of_grown hg
  have F2 : Fr (fun k => k = b.p0) w' (w'.setCell ⟨b.p0, 5, none⟩ v') := fr_cell rfl
  have hb1 : Blk w' b.p0 54 (plV b p) := X.blk.fr F1 fun e => X.ve_p0 e.symm rfl
  have F : Fr b.P w (w'.setCell ⟨b.p0, 5, none⟩ v') := (F1.mono fun k _ e => .inr (.inl e.symm)).step F2 fun k e => .inl (.inl e)
  refine ⟨X.turnP (ve' := v') (vs' := b.vs) rfl rfl rfl F (hb1.set_ 5 v') ?_ ?_ ?_, F⟩
  · rw [show (p.ends ++ [x]).length = p.ends.length + 1 by simp, show encN (p.ends ++ [x]) = encN p.ends ++ [.int .i64 x] from encN_snoc _ _]
    exact own_fr ho F2 fun k hk e => row_ne_blk ho hb1 (by decide) hk e
  · refine own_fr (own_fr X.seen F1 fun k hk e => ?_) F2 fun k hk e => X.vs_p0 hk e
    exact X.ne_rows e.symm hk rfl
  · rintro k (h | h)
    · rcases hat with e | e
      · rw [e] at h; exact .inl (.inr (.inl h))
      · rw [e] at h; injection h with h; exact .inr (by omega)
    · exact .inl (.inr (.inr h))
theorem PlAt.growSeen (X : PlAt B w b p) {v' : Value} {x : Int} (ho : w'.ownsRow B 3 1 v' (p.seen.length + 1) (encN p.seen ++ [.int .i64 x])) (hg : w.grownBy w' b.vs.ownBlock) (hat : v'.ownBlock = b.vs.ownBlock ∨ v'.ownBlock = some w.heap.size) :
    PlAt B (w'.setCell ⟨b.p0, 6, none⟩ v') { b with vs := v' } { p with seen := p.seen ++ [x] } ∧ Fr b.P w (w'.setCell ⟨b.p0, 6, none⟩ v') := by
  have F1 : Fr (fun k => some k = b.vs.ownBlock) w w' := Fr.of_grown hg
  have F2 : Fr (fun k => k = b.p0) w' (w'.setCell ⟨b.p0, 6, none⟩ v') := fr_cell rfl
  have hb1 : Blk w' b.p0 54 (plV b p) := X.blk.fr F1 fun e => X.vs_p0 e.symm rfl
  have F : Fr b.P w (w'.setCell ⟨b.p0, 6, none⟩ v') := (F1.mono fun k _ e => .inr (.inr e.symm)).step F2 fun k e => .inl (.inl e)
  refine ⟨X.turnP (ve' := b.ve) (vs' := v') rfl rfl rfl F (hb1.set_ 6 v') ?_ ?_ ?_, F⟩
  · refine own_fr (own_fr X.ends F1 fun k hk e => ?_) F2 fun k hk e => X.ve_p0 hk e
    exact X.ne_rows hk e.symm rfl
  · rw [show (p.seen ++ [x]).length = p.seen.length + 1 by simp, show encN (p.seen ++ [x]) = encN p.seen ++ [.int .i64 x] from encN_snoc _ _]
    exact own_fr ho F2 fun k hk e => row_ne_blk ho hb1 (by decide) hk e
  · rintro k (h | h)
    · exact .inl (.inr (.inl h))
    · rcases hat with e | e
      · rw [e] at h; exact .inl (.inr (.inr h))
      · rw [e] at h; injection h with h; exact .inr (by omega)
end
/-- what the law's Ask answers: a hub, a message, an error -/
def askR (p : PlayS) (mins : Int) : HubS × Msg × Int := if p.h.l.length - p.h.frm < 64 then (p.h.add (newR p mins), startM (p.h.add (newR p mins)) (newR p mins), 0) else (p.h, zeroMsg, 4)
theorem askE_eq {p : PlayS} (I : Inv p) {K : Int} {R : Nat} (M : NumB K R p) (hKK : K ≤ 1000000) (hR : R ≤ 1000000) {mins : Int} (h0 : 0 ≤ mins) (h1 : mins ≤ 11) : p.h.askE (p.run + 1) mins jobA p.clock = (askR p mins).2.2 := by
  have e1 : argB (p.run + 1) mins jobA = true := by
    unfold argB isRunB
    have := I.h.run
    have := M.hl
    have hs : jobA.size = 1 := rfl
    simp only [Bool.and_eq_true, decide_eq_true_eq, hs]
    omega
  have e2 : isClockB p.clock = true := by
    unfold isClockB
    have := M.c0
    have := M.c1
    simp only [Bool.and_eq_true, decide_eq_true_eq]
    omega
  have e3 : lastR p.h.l < p.run + 1 := by rw [last_eq I.h, I.h.run]; omega
  unfold HubS.askE askR
  rw [if_pos e1, if_pos e2, if_pos e3]
  split <;> rfl
theorem jobA_ne : jobA.toList.isEmpty = false := by
  first
    | kernel_rfl
    | decide +kernel
    | (unfold jobA ByteArray.toList; rw [ByteArray.toList.loop]; simp)
theorem lask_any (B : Nat) (b : PlB) (p : PlayS) (w : World) (X : HubAt w b.hp b.hm b.hu b.hbs p.h) (I : Inv p) {K : Int} {R : Nat} (M : NumB K R p) (hKK : K ≤ 1000000) (hR : R ≤ 1000000) (mins : Int) (h0 : 0 ≤ mins) (h1 : mins ≤ 11) (code : Int) (hc : code = (p.run + 1).tmod 3) :
    Calls Try.prog 6 #[.pointer (some ⟨b.hp, 0, none⟩), .int .i64 (p.run + 1), .int .i64 mins, .int .i64 code, .string jobA, .int .i64 p.clock] w fun e w' => ∃ u' bs', e = .returned (msgErr (askR p mins).2.1 (askR p mins).2.2) ∧
      HubAt w' b.hp b.hm u' bs' (askR p mins).1 ∧ Fr b.H w w' ∧ ∀ k, HubF b.hp b.hm u' bs' k → b.H k ∨ w.heap.size ≤ k := by
  subst hc
  have e1 : isRunB (p.run + 1) = true := by
    unfold isRunB
    have := I.h.run
    have := M.hl
    simp only [Bool.and_eq_true, decide_eq_true_eq]
    omega
  have e2 : isClockB p.clock = true := by
    unfold isClockB
    have := M.c0
    have := M.c1
    simp only [Bool.and_eq_true, decide_eq_true_eq]
    omega
  have e3 : lastR p.h.l < p.run + 1 := by rw [last_eq I.h, I.h.run]; omega
  by_cases hr : p.h.l.length - p.h.frm < 64
  · have ea : askR p mins = (p.h.add (newR p mins), startM (p.h.add (newR p mins)) (newR p mins), 0) := by unfold askR; rw [if_pos hr]
    rw [ea]
    refine (ask_ok b.hp b.hm b.hu b.hbs p.h w X (p.run + 1) mins ((p.run + 1).tmod 3) p.clock jobA e1 h0 (by omega) jobA_ne (by decide) (by decide) e2 e3 hr (findR_none I.h (.inr (by rw [I.h.run]; omega))) (by have := M.hl; omega) (by have := I.h.run; omega) (by have := I.h.run; have := M.hl; omega)).mono ?_
    rintro e w' ⟨u', b', rfl, hH, hf, hF⟩
    exact ⟨u', _, rfl, hH, hf, hF⟩
  · have ea : askR p mins = (p.h, zeroMsg, 4) := by unfold askR; rw [if_neg hr]
    rw [ea]
    refine (ask_full b.hp b.hm b.hu b.hbs p.h w X (p.run + 1) mins ((p.run + 1).tmod 3) p.clock jobA e1 h0 (by omega) jobA_ne (by decide) (by decide) e2 e3 (by omega)).mono ?_
    rintro e w' ⟨rfl, hf⟩
    exact ⟨b.hu, b.hbs, rfl, X.fr0 hf, hf.any _, fun _ h => .inl h⟩
end Go.Proofs.Ytohnchkoldbpcaa

/- agent, the law: step, a run is asked: the walk. -/
namespace Go.Proofs.Ytohnchkoldbpcaa
open Go Go.RowKit Go.Proofs

theorem count_same {k n c : Int} (hc : countI k n = c) (w : World) (hk : -9223372036854775808 ≤ k) (hk' : k ≤ 9223372036854775807) (hn : 0 < n) (hn' : n ≤ 2147483648) :
    Calls Try.prog 34 #[.int .i64 k, .int .i64 n] w fun e w' => e = .returned (.int .i64 c) ∧ w' = w := by
  subst hc
  have e : countI k n = k % n := by simp [countI]; omega
  rw [e]
  clear e
  have h1 := Int.emod_nonneg k (show n ≠ 0 by omega)
  have h2 := Int.emod_lt_of_pos k hn
  by_cases hp : 0 ≤ k
  · go_enter Try.func34, Try.ntmps34
    go_wp2
    go_ret
    exact ⟨rfl, rfl⟩
  · have hp' : k < 0 := by omega
    have h1' : ¬ n < 1 := by omega
    go_enter Try.func34, Try.ntmps34
    have ht : k.tmod n = k % n ∨ k.tmod n = k % n - n := by
      have := Int.tmod_eq_emod (a := k) (b := n)
      have hna : (n.natAbs : Int) = n := by omega
      split at this <;> omega
    have HT := Lib.hid ht
    clear ht
    go_wp2
    all_goals go_ret
    · exact ⟨ret_int (by have := HT.out; unfold wrap64; omega), rfl⟩
    · exact ⟨ret_int (by have := HT.out; omega), rfl⟩
theorem fr_set8 {S : Nat → Prop} {w : World} {g : Nat} {x : Msg} (h : S g) : Fr S w (set8 w g x) := (Fr.refl S w).set8 (.inl h) x
theorem lask_to (B : Nat) (b : PlB) (p : PlayS) (w : World) (X : HubAt w b.hp b.hm b.hu b.hbs p.h) (I : Inv p) {K : Int} {R : Nat} (M : NumB K R p) (hKK : K ≤ 1000000) (hR : R ≤ 1000000) (mins : Int) (h0 : 0 ≤ mins) (h1 : mins ≤ 11) {h' : HubS} {m : Msg} {er : Int} (ha : askR p mins = (h', m, er)) :
    Calls Try.prog 6 #[.pointer (some ⟨b.hp, 0, none⟩), .int .i64 (p.run + 1), .int .i64 mins, .int .i64 ((p.run + 1).tmod 3), .string jobA, .int .i64 p.clock] w fun e w' => ∃ u' bs', e = .returned (msgErr m er) ∧
      HubAt w' b.hp b.hm u' bs' h' ∧ Fr b.H w w' ∧ ∀ k, HubF b.hp b.hm u' bs' k → b.H k ∨ w.heap.size ≤ k := by
  have h := lask_any B b p w X I M hKK hR mins h0 h1 _ rfl
  rw [ha] at h
  exact h
set_option maxRecDepth 100000 in
set_option maxHeartbeats 4000000 in
theorem lstep_ask_full (B : Nat) (b : PlB) (p : PlayS) (w : World) (X : PlAt B w b p) (I : Inv p) {K : Int} {R : Nat} (M : NumB K R p) (hKK : K ≤ 1000000) (hR : R ≤ 1000000) (s : AStep) (ho : s.Ok) (hk : s.kind = 0 ∨ s.kind = 1) (hroom : ¬ p.h.l.length - p.h.frm < 64) :
    Calls Try.prog 18 #[.pointer (some ⟨b.p0, 0, none⟩), s.val] w fun e w' => StepOut B w w' b (stepS p s) e := by
  have HX := Lib.hid (X.fr0 ((Fr.refl No w).alloc (Obj.cells s.vals.toArray 49)))
  have HI := Lib.hid I
  have HM := Lib.hid M
  have HO := Lib.hid ho
  have HSB := Lib.hid (Blk.new w 49 s.vals)
  have y0 := X.blk.cell 0
  have y3 := X.blk.cell 3
  have y4 := X.blk.cell 4
  have yl := X.blk.lt
  simp only [List.getElem?_cons_zero, List.getElem?_cons_succ] at y0 y3 y4
  have hmr := countI_range s.n 12 (by omega)
  obtain ⟨mins, hmm⟩ : ∃ mins, countI s.n 12 = mins := ⟨_, rfl⟩
  rw [hmm] at hmr
  have HC := Lib.hid hmm
  have hm0 : 0 ≤ mins := hmr.1
  have hm1 : mins ≤ 11 := by omega
  have hrw : IntKind.i64.wrap (p.run + 1) = p.run + 1 := IntWalk.i64_in _ (by have := I.h.run; have := M.hl; omega)
  have hrun0 : 0 ≤ p.run := by have := I.h.run; omega
  have HAR := Lib.hid (show askR p mins = (p.h, zeroMsg, 4) by unfold askR; rw [if_neg hroom])
  have HST : Hid (stepS p s = p) := Lib.hid (by
    unfold stepS
    rw [if_pos hk, hmm]
    unfold askS
    rw [askE_eq I M hKK hR hm0 hm1]
    unfold askR
    rw [if_neg hroom]
    rfl)
  clear X I M ho hmm hroom
  obtain ⟨sk, sn⟩ := s
  rcases hk with h | h
  · have k0 : (sk == 0) = true := by simpa using h
    clear h
    go_enter Try.func18, Try.ntmps18
    go_wp2
    refine wp_region_b [(0, 0), (1, 0), (2, 0), (4, 0), (5, 0), (6, 0), (9, 0), (12, 0), (13, 0), (14, 0), (18, 0), (19, 0), (20, 0), (3, 1), (7, 1), (8, 0), (10, 1), (15, 1), (16, 0), (17, 0), (21, 1), (11, 1)] 22 3 26 2 [(23, 0), (24, 0), (25, 0), (26, 2), (27, 3), (28, 0)] [(22, 3), (23, 0), (24, 0), (25, 0), (27, 3), (28, 0)] (by kernel_rfl) (by kernel_rfl) ?_
    repeat (first
      | (apply wpO_pure rfl rfl; (focus (intro w'; go_simp; (try rfl); done)); try simp only [Act.put, List.setIfInBounds_toArray, List.set_cons_zero, List.set_cons_succ])
      | (apply wpO_read rfl rfl; (focus (intro w' hf' hs'; (try simp only [World.size_drew, World.cell?_drew, World.size_alloc, World.size_setCell] at hs'); go_simp; (try rfl); done)); try simp only [Act.put, List.setIfInBounds_toArray, List.set_cons_zero, List.set_cons_succ])
      | (apply wpO_skip (by decide) rfl rfl; try simp only [Act.put, List.setIfInBounds_toArray, List.set_cons_zero, List.set_cons_succ]))
    apply wpO_call (v := .int .i64 mins) 34 #[.int .i64 sn, .int .i64 12] rfl rfl
    (focus (intro w'; go_simp; (try rfl); done))
    (focus (intro w' hf'; exact count_same HC.out _ HO.out.1 HO.out.2 (by omega) (by omega)))
    try simp only [Act.put, List.setIfInBounds_toArray, List.set_cons_zero, List.set_cons_succ]
    refine br_both ?_ ?_
    · skip
      refine wpO_loud rfl fun K hK => ?_
      go_simp
      refine (lask_to B b p _ (HX.out.fr0 (by (repeat (first | exact Fr.refl _ _ | assumption | refine Fr.drew ?_ | refine Fr.drewL ?_ | refine Fr.alloc ?_ _)))).hub HI.out HM.out hKK hR mins hm0 hm1 HAR.out).mono ?_
      rintro e w3 ⟨u3, bs3, rfl, hH3, hF3, hN3⟩
      refine hK _ _ ?_
      clear hK K
      have HX3 := Lib.hid ((HX.out.fr0 (by (repeat (first | exact Fr.refl _ _ | assumption | refine Fr.drew ?_ | refine Fr.drewL ?_ | refine Fr.alloc ?_ _)))).turnH hH3 hF3 hN3)
      have HF3 : Hid (Fr b.F w w3) := Lib.hid ((((Fr.refl No w).alloc _).drew.any _).trans (hF3.mono fun k _ h => .inl h))
      clear hH3 hF3 hN3
      repeat (first
        | (apply wpO_pure rfl rfl; (focus (intro w'; go_simp; (try rfl); done)); try simp only [Act.put, List.setIfInBounds_toArray, List.set_cons_zero, List.set_cons_succ])
        | (apply wpO_read rfl rfl; (focus (intro w' hf' hs'; (try simp only [World.size_drew, World.cell?_drew, World.size_alloc, World.size_setCell] at hs'); go_simp; (try rfl); done)); try simp only [Act.put, List.setIfInBounds_toArray, List.set_cons_zero, List.set_cons_succ])
        | (apply wpO_skip (by decide) rfl rfl; try simp only [Act.put, List.setIfInBounds_toArray, List.set_cons_zero, List.set_cons_succ]))
      refine wpO_loudE rfl fun K hK => ?_
      go_simp
      refine hK _ _ ⟨by (repeat (first | exact Fr.refl _ _ | assumption | refine Fr.drew ?_ | refine Fr.drewL ?_ | refine Fr.alloc ?_ _)), ?_⟩
      clear hK K
      repeat (first
        | (apply wpO_pure rfl rfl; (focus (intro w'; go_simp; (try rfl); done)); try simp only [Act.put, List.setIfInBounds_toArray, List.set_cons_zero, List.set_cons_succ])
        | (apply wpO_read rfl rfl; (focus (intro w' hf' hs'; (try simp only [World.size_drew, World.cell?_drew, World.size_alloc, World.size_setCell] at hs'); go_simp; (try rfl); done)); try simp only [Act.put, List.setIfInBounds_toArray, List.set_cons_zero, List.set_cons_succ])
        | (apply wpO_skip (by decide) rfl rfl; try simp only [Act.put, List.setIfInBounds_toArray, List.set_cons_zero, List.set_cons_succ]))
      refine wpO_loud rfl fun K hK => ?_
      go_simp
      refine hK _ _ ?_
      clear hK K
      repeat (first
        | (apply wpO_pure rfl rfl; (focus (intro w'; go_simp; (try rfl); done)); try simp only [Act.put, List.setIfInBounds_toArray, List.set_cons_zero, List.set_cons_succ])
        | (apply wpO_read rfl rfl; (focus (intro w' hf' hs'; (try simp only [World.size_drew, World.cell?_drew, World.size_alloc, World.size_setCell] at hs'); go_simp; (try rfl); done)); try simp only [Act.put, List.setIfInBounds_toArray, List.set_cons_zero, List.set_cons_succ])
        | (apply wpO_skip (by decide) rfl rfl; try simp only [Act.put, List.setIfInBounds_toArray, List.set_cons_zero, List.set_cons_succ]))
      repeat (first
        | (apply wpO_pure rfl rfl; (focus (intro w'; go_simp; (try rfl); done)); try simp only [Act.put, List.setIfInBounds_toArray, List.set_cons_zero, List.set_cons_succ])
        | (apply wpO_read rfl rfl; (focus (intro w' hf' hs'; (try simp only [World.size_drew, World.cell?_drew, World.size_alloc, World.size_setCell] at hs'); go_simp; (try rfl); done)); try simp only [Act.put, List.setIfInBounds_toArray, List.set_cons_zero, List.set_cons_succ])
        | (apply wpO_skip (by decide) rfl rfl; try simp only [Act.put, List.setIfInBounds_toArray, List.set_cons_zero, List.set_cons_succ]))
      refine wpO_nil ?_
      generalize hW : World.alloc w3 _ = W
      have HXW := Lib.hid (HX3.out.fr0 (show Fr No w3 W by subst hW; exact (Fr.refl No w3).alloc _))
      have HMB : Hid (Blk W w3.heap.size 26 (Msg.vals (zeroMsg))) := Lib.hid (by subst hW; exact Blk.new w3 _ _)
      have HFW : Hid (Fr b.F w W) := Lib.hid (by subst hW; exact HF3.out.alloc _)
      have HGP : Hid (¬ w3.heap.size = b.p0) := Lib.hid (by have := HX3.out.blk.lt; intro e; have e2 : b.p0 < w3.heap.size := this; omega)
      clear hW y0 y3 y4 yl HX HX3 HF3
      go_wp2
      refine bodyPost_end (v := .tuple #[]) (by simp [results, Try.results18, go_sem]) rfl ⟨{ b with hu := u3, hbs := bs3 }, ⟨_, rfl⟩, rfl, ?_, HFW.out⟩
      rw [HST.out]
      exact HXW.out
    · skip
      refine wpO_loudE rfl fun K hK => ?_
      go_simp
      refine hK _ _ ⟨by (repeat (first | exact Fr.refl _ _ | assumption | refine Fr.drew ?_ | refine Fr.drewL ?_ | refine Fr.alloc ?_ _)), ?_⟩
      clear hK K
      repeat (first
        | (apply wpO_pure rfl rfl; (focus (intro w'; go_simp; (try rfl); done)); try simp only [Act.put, List.setIfInBounds_toArray, List.set_cons_zero, List.set_cons_succ])
        | (apply wpO_read rfl rfl; (focus (intro w' hf' hs'; (try simp only [World.size_drew, World.cell?_drew, World.size_alloc, World.size_setCell] at hs'); go_simp; (try rfl); done)); try simp only [Act.put, List.setIfInBounds_toArray, List.set_cons_zero, List.set_cons_succ])
        | (apply wpO_skip (by decide) rfl rfl; try simp only [Act.put, List.setIfInBounds_toArray, List.set_cons_zero, List.set_cons_succ]))
      have HA2 := Lib.hid (HX.out.fr0 (((Fr.refl No _).drew).alloc (Obj.cells zeroMsg.vals.toArray 26)))
      have HZ2 := Lib.hid (Blk.new (w.alloc (Obj.cells (AStep.vals ⟨sk, sn⟩).toArray 49)).drew 26 zeroMsg.vals)
      refine wpO_loud rfl fun K hK => ?_
      go_simp
      refine (lask_to B b p _ HA2.out.hub HI.out HM.out hKK hR mins hm0 hm1 HAR.out).mono ?_
      rintro e w3 ⟨u3, bs3, rfl, hH3, hF3, hN3⟩
      refine hK _ _ ?_
      clear hK K
      have hZ3 := HZ2.out.fr hF3 (fun e => HA2.out.hub.no_msg _ _ _ HZ2.out e)
      simp only [World.size_drew, World.size_alloc] at hZ3 hN3
      have HZ3 := Lib.hid hZ3
      obtain ⟨f0, f1, f2, f3, f4, f5, f6, f7⟩ := HZ3.out.cells8
      have f8 := HZ3.out.lt
      have f9 := HZ3.out.frozens
      have HF3 := Lib.hid hF3
      have HH3 := Lib.hid hH3
      have HN3 := Lib.hid hN3
      clear hF3 hH3 hN3 hZ3
      repeat (first
        | (apply wpO_pure rfl rfl; (focus (intro w'; go_simp; (try rfl); done)); try simp only [Act.put, List.setIfInBounds_toArray, List.set_cons_zero, List.set_cons_succ])
        | (apply wpO_read rfl rfl; (focus (intro w' hf' hs'; (try simp only [World.size_drew, World.cell?_drew, World.size_alloc, World.size_setCell] at hs'); go_simp; (try rfl); done)); try simp only [Act.put, List.setIfInBounds_toArray, List.set_cons_zero, List.set_cons_succ])
        | (apply wpO_skip (by decide) rfl rfl; try simp only [Act.put, List.setIfInBounds_toArray, List.set_cons_zero, List.set_cons_succ]))
      refine wpO_loud rfl fun K hK => ?_
      go_simp
      refine hK _ _ ?_
      clear hK K
      repeat (first
        | (apply wpO_pure rfl rfl; (focus (intro w'; go_simp; (try rfl); done)); try simp only [Act.put, List.setIfInBounds_toArray, List.set_cons_zero, List.set_cons_succ])
        | (apply wpO_read rfl rfl; (focus (intro w' hf' hs'; (try simp only [World.size_drew, World.cell?_drew, World.size_alloc, World.size_setCell] at hs'); go_simp; (try rfl); done)); try simp only [Act.put, List.setIfInBounds_toArray, List.set_cons_zero, List.set_cons_succ])
        | (apply wpO_skip (by decide) rfl rfl; try simp only [Act.put, List.setIfInBounds_toArray, List.set_cons_zero, List.set_cons_succ]))
      repeat (first
        | (apply wpO_pure rfl rfl; (focus (intro w'; go_simp; (try rfl); done)); try simp only [Act.put, List.setIfInBounds_toArray, List.set_cons_zero, List.set_cons_succ])
        | (apply wpO_read rfl rfl; (focus (intro w' hf' hs'; (try simp only [World.size_drew, World.cell?_drew, World.size_alloc, World.size_setCell] at hs'); go_simp; (try rfl); done)); try simp only [Act.put, List.setIfInBounds_toArray, List.set_cons_zero, List.set_cons_succ])
        | (apply wpO_skip (by decide) rfl rfl; try simp only [Act.put, List.setIfInBounds_toArray, List.set_cons_zero, List.set_cons_succ]))
      refine wpO_nil ?_
      generalize hW : World.setCell _ _ _ = W
      have hFS : Fr (fun k => k = w.heap.size + 1) w3 W := by subst hW; exact fr_set8 (S := fun k => k = w.heap.size + 1) (x := (zeroMsg)) rfl
      have hF1 : Fr b.H (w.alloc (Obj.cells (AStep.vals ⟨sk, sn⟩).toArray 49)) W := ((((Fr.refl No _).drew.alloc _).any _).trans HF3.out).step hFS fun k e => .inr (by have e : k = w.heap.size + 1 := e; rw [e, World.size_alloc]; exact Nat.le_refl _)
      have HXW := Lib.hid (HX.out.turnH (HH3.out.fr hFS fun k hk e => by have e : k = w.heap.size + 1 := e; subst e; exact HH3.out.no_msg _ _ _ HZ3.out hk) hF1 fun k hk => (HN3.out k hk).imp id fun h => by rw [World.size_alloc]; omega)
      have HMB : Hid (Blk W (w.heap.size + 1) 26 (Msg.vals (zeroMsg))) := Lib.hid (by subst hW; exact HZ3.out.set8 (zeroMsg))
      have HFW : Hid (Fr b.F w W) := Lib.hid ((((Fr.refl No w).alloc _).any _).trans (hF1.mono fun k _ h => .inl h))
      have HGP : Hid (¬ w.heap.size + 1 = b.p0) := Lib.hid (by have := HX.out.blk.lt; rw [World.size_alloc] at this; omega)
      clear hW hFS hF1 f0 f1 f2 f3 f4 f5 f6 f7 f8 f9 y0 y3 y4 yl HX HF3 HZ3 HZ2 HA2 HH3 HN3
      go_wp2
      refine bodyPost_end (v := .tuple #[]) (by simp [results, Try.results18, go_sem]) rfl ⟨{ b with hu := u3, hbs := bs3 }, ⟨_, rfl⟩, rfl, ?_, HFW.out⟩
      rw [HST.out]
      exact HXW.out
  · have k0 : (sk == 0) = false := by simp only at h; rw [h]; rfl
    have k1 : (sk == 1) = true := by simpa using h
    clear h
    go_enter Try.func18, Try.ntmps18
    go_wp2
    refine wp_region_b [(0, 0), (1, 0), (2, 0), (4, 0), (5, 0), (6, 0), (9, 0), (12, 0), (13, 0), (14, 0), (18, 0), (19, 0), (20, 0), (3, 1), (7, 1), (8, 0), (10, 1), (15, 1), (16, 0), (17, 0), (21, 1), (11, 1)] 22 3 26 2 [(23, 0), (24, 0), (25, 0), (26, 2), (27, 3), (28, 0)] [(22, 3), (23, 0), (24, 0), (25, 0), (27, 3), (28, 0)] (by kernel_rfl) (by kernel_rfl) ?_
    repeat (first
      | (apply wpO_pure rfl rfl; (focus (intro w'; go_simp; (try rfl); done)); try simp only [Act.put, List.setIfInBounds_toArray, List.set_cons_zero, List.set_cons_succ])
      | (apply wpO_read rfl rfl; (focus (intro w' hf' hs'; (try simp only [World.size_drew, World.cell?_drew, World.size_alloc, World.size_setCell] at hs'); go_simp; (try rfl); done)); try simp only [Act.put, List.setIfInBounds_toArray, List.set_cons_zero, List.set_cons_succ])
      | (apply wpO_skip (by decide) rfl rfl; try simp only [Act.put, List.setIfInBounds_toArray, List.set_cons_zero, List.set_cons_succ]))
    apply wpO_call (v := .int .i64 mins) 34 #[.int .i64 sn, .int .i64 12] rfl rfl
    (focus (intro w'; go_simp; (try rfl); done))
    (focus (intro w' hf'; exact count_same HC.out _ HO.out.1 HO.out.2 (by omega) (by omega)))
    try simp only [Act.put, List.setIfInBounds_toArray, List.set_cons_zero, List.set_cons_succ]
    refine br_both ?_ ?_
    · skip
      refine wpO_loud rfl fun K hK => ?_
      go_simp
      refine (lask_to B b p _ (HX.out.fr0 (by (repeat (first | exact Fr.refl _ _ | assumption | refine Fr.drew ?_ | refine Fr.drewL ?_ | refine Fr.alloc ?_ _)))).hub HI.out HM.out hKK hR mins hm0 hm1 HAR.out).mono ?_
      rintro e w3 ⟨u3, bs3, rfl, hH3, hF3, hN3⟩
      refine hK _ _ ?_
      clear hK K
      have HX3 := Lib.hid ((HX.out.fr0 (by (repeat (first | exact Fr.refl _ _ | assumption | refine Fr.drew ?_ | refine Fr.drewL ?_ | refine Fr.alloc ?_ _)))).turnH hH3 hF3 hN3)
      have HF3 : Hid (Fr b.F w w3) := Lib.hid ((((Fr.refl No w).alloc _).drew.any _).trans (hF3.mono fun k _ h => .inl h))
      clear hH3 hF3 hN3
      repeat (first
        | (apply wpO_pure rfl rfl; (focus (intro w'; go_simp; (try rfl); done)); try simp only [Act.put, List.setIfInBounds_toArray, List.set_cons_zero, List.set_cons_succ])
        | (apply wpO_read rfl rfl; (focus (intro w' hf' hs'; (try simp only [World.size_drew, World.cell?_drew, World.size_alloc, World.size_setCell] at hs'); go_simp; (try rfl); done)); try simp only [Act.put, List.setIfInBounds_toArray, List.set_cons_zero, List.set_cons_succ])
        | (apply wpO_skip (by decide) rfl rfl; try simp only [Act.put, List.setIfInBounds_toArray, List.set_cons_zero, List.set_cons_succ]))
      refine wpO_loudE rfl fun K hK => ?_
      go_simp
      refine hK _ _ ⟨by (repeat (first | exact Fr.refl _ _ | assumption | refine Fr.drew ?_ | refine Fr.drewL ?_ | refine Fr.alloc ?_ _)), ?_⟩
      clear hK K
      repeat (first
        | (apply wpO_pure rfl rfl; (focus (intro w'; go_simp; (try rfl); done)); try simp only [Act.put, List.setIfInBounds_toArray, List.set_cons_zero, List.set_cons_succ])
        | (apply wpO_read rfl rfl; (focus (intro w' hf' hs'; (try simp only [World.size_drew, World.cell?_drew, World.size_alloc, World.size_setCell] at hs'); go_simp; (try rfl); done)); try simp only [Act.put, List.setIfInBounds_toArray, List.set_cons_zero, List.set_cons_succ])
        | (apply wpO_skip (by decide) rfl rfl; try simp only [Act.put, List.setIfInBounds_toArray, List.set_cons_zero, List.set_cons_succ]))
      refine wpO_loud rfl fun K hK => ?_
      go_simp
      refine hK _ _ ?_
      clear hK K
      repeat (first
        | (apply wpO_pure rfl rfl; (focus (intro w'; go_simp; (try rfl); done)); try simp only [Act.put, List.setIfInBounds_toArray, List.set_cons_zero, List.set_cons_succ])
        | (apply wpO_read rfl rfl; (focus (intro w' hf' hs'; (try simp only [World.size_drew, World.cell?_drew, World.size_alloc, World.size_setCell] at hs'); go_simp; (try rfl); done)); try simp only [Act.put, List.setIfInBounds_toArray, List.set_cons_zero, List.set_cons_succ])
        | (apply wpO_skip (by decide) rfl rfl; try simp only [Act.put, List.setIfInBounds_toArray, List.set_cons_zero, List.set_cons_succ]))
      repeat (first
        | (apply wpO_pure rfl rfl; (focus (intro w'; go_simp; (try rfl); done)); try simp only [Act.put, List.setIfInBounds_toArray, List.set_cons_zero, List.set_cons_succ])
        | (apply wpO_read rfl rfl; (focus (intro w' hf' hs'; (try simp only [World.size_drew, World.cell?_drew, World.size_alloc, World.size_setCell] at hs'); go_simp; (try rfl); done)); try simp only [Act.put, List.setIfInBounds_toArray, List.set_cons_zero, List.set_cons_succ])
        | (apply wpO_skip (by decide) rfl rfl; try simp only [Act.put, List.setIfInBounds_toArray, List.set_cons_zero, List.set_cons_succ]))
      refine wpO_nil ?_
      generalize hW : World.alloc w3 _ = W
      have HXW := Lib.hid (HX3.out.fr0 (show Fr No w3 W by subst hW; exact (Fr.refl No w3).alloc _))
      have HMB : Hid (Blk W w3.heap.size 26 (Msg.vals (zeroMsg))) := Lib.hid (by subst hW; exact Blk.new w3 _ _)
      have HFW : Hid (Fr b.F w W) := Lib.hid (by subst hW; exact HF3.out.alloc _)
      have HGP : Hid (¬ w3.heap.size = b.p0) := Lib.hid (by have := HX3.out.blk.lt; intro e; have e2 : b.p0 < w3.heap.size := this; omega)
      clear hW y0 y3 y4 yl HX HX3 HF3
      go_wp2
      refine bodyPost_end (v := .tuple #[]) (by simp [results, Try.results18, go_sem]) rfl ⟨{ b with hu := u3, hbs := bs3 }, ⟨_, rfl⟩, rfl, ?_, HFW.out⟩
      rw [HST.out]
      exact HXW.out
    · skip
      refine wpO_loudE rfl fun K hK => ?_
      go_simp
      refine hK _ _ ⟨by (repeat (first | exact Fr.refl _ _ | assumption | refine Fr.drew ?_ | refine Fr.drewL ?_ | refine Fr.alloc ?_ _)), ?_⟩
      clear hK K
      repeat (first
        | (apply wpO_pure rfl rfl; (focus (intro w'; go_simp; (try rfl); done)); try simp only [Act.put, List.setIfInBounds_toArray, List.set_cons_zero, List.set_cons_succ])
        | (apply wpO_read rfl rfl; (focus (intro w' hf' hs'; (try simp only [World.size_drew, World.cell?_drew, World.size_alloc, World.size_setCell] at hs'); go_simp; (try rfl); done)); try simp only [Act.put, List.setIfInBounds_toArray, List.set_cons_zero, List.set_cons_succ])
        | (apply wpO_skip (by decide) rfl rfl; try simp only [Act.put, List.setIfInBounds_toArray, List.set_cons_zero, List.set_cons_succ]))
      have HA2 := Lib.hid (HX.out.fr0 (((Fr.refl No _).drew).alloc (Obj.cells zeroMsg.vals.toArray 26)))
      have HZ2 := Lib.hid (Blk.new (w.alloc (Obj.cells (AStep.vals ⟨sk, sn⟩).toArray 49)).drew 26 zeroMsg.vals)
      refine wpO_loud rfl fun K hK => ?_
      go_simp
      refine (lask_to B b p _ HA2.out.hub HI.out HM.out hKK hR mins hm0 hm1 HAR.out).mono ?_
      rintro e w3 ⟨u3, bs3, rfl, hH3, hF3, hN3⟩
      refine hK _ _ ?_
      clear hK K
      have hZ3 := HZ2.out.fr hF3 (fun e => HA2.out.hub.no_msg _ _ _ HZ2.out e)
      simp only [World.size_drew, World.size_alloc] at hZ3 hN3
      have HZ3 := Lib.hid hZ3
      obtain ⟨f0, f1, f2, f3, f4, f5, f6, f7⟩ := HZ3.out.cells8
      have f8 := HZ3.out.lt
      have f9 := HZ3.out.frozens
      have HF3 := Lib.hid hF3
      have HH3 := Lib.hid hH3
      have HN3 := Lib.hid hN3
      clear hF3 hH3 hN3 hZ3
      repeat (first
        | (apply wpO_pure rfl rfl; (focus (intro w'; go_simp; (try rfl); done)); try simp only [Act.put, List.setIfInBounds_toArray, List.set_cons_zero, List.set_cons_succ])
        | (apply wpO_read rfl rfl; (focus (intro w' hf' hs'; (try simp only [World.size_drew, World.cell?_drew, World.size_alloc, World.size_setCell] at hs'); go_simp; (try rfl); done)); try simp only [Act.put, List.setIfInBounds_toArray, List.set_cons_zero, List.set_cons_succ])
        | (apply wpO_skip (by decide) rfl rfl; try simp only [Act.put, List.setIfInBounds_toArray, List.set_cons_zero, List.set_cons_succ]))
      refine wpO_loud rfl fun K hK => ?_
      go_simp
      refine hK _ _ ?_
      clear hK K
      repeat (first
        | (apply wpO_pure rfl rfl; (focus (intro w'; go_simp; (try rfl); done)); try simp only [Act.put, List.setIfInBounds_toArray, List.set_cons_zero, List.set_cons_succ])
        | (apply wpO_read rfl rfl; (focus (intro w' hf' hs'; (try simp only [World.size_drew, World.cell?_drew, World.size_alloc, World.size_setCell] at hs'); go_simp; (try rfl); done)); try simp only [Act.put, List.setIfInBounds_toArray, List.set_cons_zero, List.set_cons_succ])
        | (apply wpO_skip (by decide) rfl rfl; try simp only [Act.put, List.setIfInBounds_toArray, List.set_cons_zero, List.set_cons_succ]))
      repeat (first
        | (apply wpO_pure rfl rfl; (focus (intro w'; go_simp; (try rfl); done)); try simp only [Act.put, List.setIfInBounds_toArray, List.set_cons_zero, List.set_cons_succ])
        | (apply wpO_read rfl rfl; (focus (intro w' hf' hs'; (try simp only [World.size_drew, World.cell?_drew, World.size_alloc, World.size_setCell] at hs'); go_simp; (try rfl); done)); try simp only [Act.put, List.setIfInBounds_toArray, List.set_cons_zero, List.set_cons_succ])
        | (apply wpO_skip (by decide) rfl rfl; try simp only [Act.put, List.setIfInBounds_toArray, List.set_cons_zero, List.set_cons_succ]))
      refine wpO_nil ?_
      generalize hW : World.setCell _ _ _ = W
      have hFS : Fr (fun k => k = w.heap.size + 1) w3 W := by subst hW; exact fr_set8 (S := fun k => k = w.heap.size + 1) (x := (zeroMsg)) rfl
      have hF1 : Fr b.H (w.alloc (Obj.cells (AStep.vals ⟨sk, sn⟩).toArray 49)) W := ((((Fr.refl No _).drew.alloc _).any _).trans HF3.out).step hFS fun k e => .inr (by have e : k = w.heap.size + 1 := e; rw [e, World.size_alloc]; exact Nat.le_refl _)
      have HXW := Lib.hid (HX.out.turnH (HH3.out.fr hFS fun k hk e => by have e : k = w.heap.size + 1 := e; subst e; exact HH3.out.no_msg _ _ _ HZ3.out hk) hF1 fun k hk => (HN3.out k hk).imp id fun h => by rw [World.size_alloc]; omega)
      have HMB : Hid (Blk W (w.heap.size + 1) 26 (Msg.vals (zeroMsg))) := Lib.hid (by subst hW; exact HZ3.out.set8 (zeroMsg))
      have HFW : Hid (Fr b.F w W) := Lib.hid ((((Fr.refl No w).alloc _).any _).trans (hF1.mono fun k _ h => .inl h))
      have HGP : Hid (¬ w.heap.size + 1 = b.p0) := Lib.hid (by have := HX.out.blk.lt; rw [World.size_alloc] at this; omega)
      clear hW hFS hF1 f0 f1 f2 f3 f4 f5 f6 f7 f8 f9 y0 y3 y4 yl HX HF3 HZ3 HZ2 HA2 HH3 HN3
      go_wp2
      refine bodyPost_end (v := .tuple #[]) (by simp [results, Try.results18, go_sem]) rfl ⟨{ b with hu := u3, hbs := bs3 }, ⟨_, rfl⟩, rfl, ?_, HFW.out⟩
      rw [HST.out]
      exact HXW.out
end Go.Proofs.Ytohnchkoldbpcaa

/- agent, the law: step, a run is asked: there is room. -/
namespace Go.Proofs.Ytohnchkoldbpcaa
open Go Go.RowKit Go.Proofs

theorem int1_info : (Try.prog.info? 3).map (fun i => (i.zero, i.size, i.bytes)) = some (some (.int .i64 0), 1, 8) := by kernel_rfl
set_option maxRecDepth 100000 in
set_option maxHeartbeats 4000000 in
theorem lstep_ask_ok (B : Nat) (b : PlB) (p : PlayS) (w : World) (X : PlAt B w b p) (I : Inv p) {K : Int} {R : Nat} (M : NumB K R p) (hKK : K ≤ 1000000) (hR : R ≤ 1000000) (s : AStep) (ho : s.Ok) (hk : s.kind = 0 ∨ s.kind = 1) (hroom : p.h.l.length - p.h.frm < 64) :
    Calls Try.prog 18 #[.pointer (some ⟨b.p0, 0, none⟩), s.val] w fun e w' => StepOut B w w' b (stepS p s) e := by
  obtain ⟨i0, hi0, hz0, hz1, hz2⟩ := info_parts i64_info
  obtain ⟨j0, hj0, jz0, jz1, jz2⟩ := info_parts int1_info
  have HX := Lib.hid (X.fr0 ((Fr.refl No w).alloc (Obj.cells s.vals.toArray 49)))
  have HI := Lib.hid I
  have HM := Lib.hid M
  have HO := Lib.hid ho
  have HSB := Lib.hid (Blk.new w 49 s.vals)
  have y0 := X.blk.cell 0
  have y3 := X.blk.cell 3
  have y4 := X.blk.cell 4
  have yl := X.blk.lt
  simp only [List.getElem?_cons_zero, List.getElem?_cons_succ] at y0 y3 y4
  have hmr := countI_range s.n 12 (by omega)
  obtain ⟨mins, hmm⟩ : ∃ mins, countI s.n 12 = mins := ⟨_, rfl⟩
  rw [hmm] at hmr
  have HC := Lib.hid hmm
  have hm0 : 0 ≤ mins := hmr.1
  have hm1 : mins ≤ 11 := by omega
  have hrw : IntKind.i64.wrap (p.run + 1) = p.run + 1 := IntWalk.i64_in _ (by have := I.h.run; have := M.hl; omega)
  have hrun0 : 0 ≤ p.run := by have := I.h.run; omega
  have HAR := Lib.hid (show askR p mins = (p.h.add (newR p mins), startM (p.h.add (newR p mins)) (newR p mins), 0) by unfold askR; rw [if_pos hroom])
  have HST : Hid (stepS p s = { p with h := p.h.add (newR p mins), run := p.run + 1, ends := p.ends ++ [-1], seen := p.seen ++ [0], n := sendsL [startM (p.h.add (newR p mins)) (newR p mins)] p.n }) := Lib.hid (by
    unfold stepS
    rw [if_pos hk, hmm]
    unfold askS
    rw [askE_eq I M hKK hR hm0 hm1]
    unfold askR
    rw [if_pos hroom]
    rfl)
  clear X I M ho hmm hroom
  obtain ⟨sk, sn⟩ := s
  rcases hk with h | h
  · have k0 : (sk == 0) = true := by simpa using h
    clear h
    go_enter Try.func18, Try.ntmps18
    go_wp2
    refine wp_region_b [(0, 0), (1, 0), (2, 0), (4, 0), (5, 0), (6, 0), (9, 0), (12, 0), (13, 0), (14, 0), (18, 0), (19, 0), (20, 0), (3, 1), (7, 1), (8, 0), (10, 1), (15, 1), (16, 0), (17, 0), (21, 1), (11, 1)] 22 3 26 2 [(23, 0), (24, 0), (25, 0), (26, 2), (27, 3), (28, 0)] [(22, 3), (23, 0), (24, 0), (25, 0), (27, 3), (28, 0)] (by kernel_rfl) (by kernel_rfl) ?_
    repeat (first
      | (apply wpO_pure rfl rfl; (focus (intro w'; go_simp; (try rfl); done)); try simp only [Act.put, List.setIfInBounds_toArray, List.set_cons_zero, List.set_cons_succ])
      | (apply wpO_read rfl rfl; (focus (intro w' hf' hs'; (try simp only [World.size_drew, World.cell?_drew, World.size_alloc, World.size_setCell] at hs'); go_simp; (try rfl); done)); try simp only [Act.put, List.setIfInBounds_toArray, List.set_cons_zero, List.set_cons_succ])
      | (apply wpO_skip (by decide) rfl rfl; try simp only [Act.put, List.setIfInBounds_toArray, List.set_cons_zero, List.set_cons_succ]))
    apply wpO_call (v := .int .i64 mins) 34 #[.int .i64 sn, .int .i64 12] rfl rfl
    (focus (intro w'; go_simp; (try rfl); done))
    (focus (intro w' hf'; exact count_same HC.out _ HO.out.1 HO.out.2 (by omega) (by omega)))
    try simp only [Act.put, List.setIfInBounds_toArray, List.set_cons_zero, List.set_cons_succ]
    refine br_both ?_ ?_
    · skip
      refine wpO_loud rfl fun K hK => ?_
      go_simp
      refine (lask_to B b p _ (HX.out.fr0 (by (repeat (first | exact Fr.refl _ _ | assumption | refine Fr.drew ?_ | refine Fr.drewL ?_ | refine Fr.alloc ?_ _)))).hub HI.out HM.out hKK hR mins hm0 hm1 HAR.out).mono ?_
      rintro e w3 ⟨u3, bs3, rfl, hH3, hF3, hN3⟩
      refine hK _ _ ?_
      clear hK K
      have HX3 := Lib.hid ((HX.out.fr0 (by (repeat (first | exact Fr.refl _ _ | assumption | refine Fr.drew ?_ | refine Fr.drewL ?_ | refine Fr.alloc ?_ _)))).turnH hH3 hF3 hN3)
      have HF3 : Hid (Fr b.F w w3) := Lib.hid ((((Fr.refl No w).alloc _).drew.any _).trans (hF3.mono fun k _ h => .inl h))
      clear hH3 hF3 hN3
      repeat (first
        | (apply wpO_pure rfl rfl; (focus (intro w'; go_simp; (try rfl); done)); try simp only [Act.put, List.setIfInBounds_toArray, List.set_cons_zero, List.set_cons_succ])
        | (apply wpO_read rfl rfl; (focus (intro w' hf' hs'; (try simp only [World.size_drew, World.cell?_drew, World.size_alloc, World.size_setCell] at hs'); go_simp; (try rfl); done)); try simp only [Act.put, List.setIfInBounds_toArray, List.set_cons_zero, List.set_cons_succ])
        | (apply wpO_skip (by decide) rfl rfl; try simp only [Act.put, List.setIfInBounds_toArray, List.set_cons_zero, List.set_cons_succ]))
      refine wpO_loudE rfl fun K hK => ?_
      go_simp
      refine hK _ _ ⟨by (repeat (first | exact Fr.refl _ _ | assumption | refine Fr.drew ?_ | refine Fr.drewL ?_ | refine Fr.alloc ?_ _)), ?_⟩
      clear hK K
      repeat (first
        | (apply wpO_pure rfl rfl; (focus (intro w'; go_simp; (try rfl); done)); try simp only [Act.put, List.setIfInBounds_toArray, List.set_cons_zero, List.set_cons_succ])
        | (apply wpO_read rfl rfl; (focus (intro w' hf' hs'; (try simp only [World.size_drew, World.cell?_drew, World.size_alloc, World.size_setCell] at hs'); go_simp; (try rfl); done)); try simp only [Act.put, List.setIfInBounds_toArray, List.set_cons_zero, List.set_cons_succ])
        | (apply wpO_skip (by decide) rfl rfl; try simp only [Act.put, List.setIfInBounds_toArray, List.set_cons_zero, List.set_cons_succ]))
      refine wpO_loud rfl fun K hK => ?_
      go_simp
      refine hK _ _ ?_
      clear hK K
      repeat (first
        | (apply wpO_pure rfl rfl; (focus (intro w'; go_simp; (try rfl); done)); try simp only [Act.put, List.setIfInBounds_toArray, List.set_cons_zero, List.set_cons_succ])
        | (apply wpO_read rfl rfl; (focus (intro w' hf' hs'; (try simp only [World.size_drew, World.cell?_drew, World.size_alloc, World.size_setCell] at hs'); go_simp; (try rfl); done)); try simp only [Act.put, List.setIfInBounds_toArray, List.set_cons_zero, List.set_cons_succ])
        | (apply wpO_skip (by decide) rfl rfl; try simp only [Act.put, List.setIfInBounds_toArray, List.set_cons_zero, List.set_cons_succ]))
      repeat (first
        | (apply wpO_pure rfl rfl; (focus (intro w'; go_simp; (try rfl); done)); try simp only [Act.put, List.setIfInBounds_toArray, List.set_cons_zero, List.set_cons_succ])
        | (apply wpO_read rfl rfl; (focus (intro w' hf' hs'; (try simp only [World.size_drew, World.cell?_drew, World.size_alloc, World.size_setCell] at hs'); go_simp; (try rfl); done)); try simp only [Act.put, List.setIfInBounds_toArray, List.set_cons_zero, List.set_cons_succ])
        | (apply wpO_skip (by decide) rfl rfl; try simp only [Act.put, List.setIfInBounds_toArray, List.set_cons_zero, List.set_cons_succ]))
      refine wpO_nil ?_
      generalize hW : World.alloc w3 _ = W
      have HXW := Lib.hid (HX3.out.fr0 (show Fr No w3 W by subst hW; exact (Fr.refl No w3).alloc _))
      have HMB : Hid (Blk W w3.heap.size 26 (Msg.vals (startM (p.h.add (newR p mins)) (newR p mins)))) := Lib.hid (by subst hW; exact Blk.new w3 _ _)
      have HFW : Hid (Fr b.F w W) := Lib.hid (by subst hW; exact HF3.out.alloc _)
      have HGP : Hid (¬ w3.heap.size = b.p0) := Lib.hid (by have := HX3.out.blk.lt; intro e; have e2 : b.p0 < w3.heap.size := this; omega)
      clear hW y0 y3 y4 yl HX HX3 HF3
      have y4 := HXW.out.blk.cell 4
      have y5 := HXW.out.blk.cell 5
      have y6 := HXW.out.blk.cell 6
      have yl := HXW.out.blk.lt
      have yz := HXW.out.blk.frozens
      simp only [List.getElem?_cons_zero, List.getElem?_cons_succ] at y4 y5 y6
      have hX4 : PlAt B (W.setCell ⟨b.p0, 4, none⟩ (.int .i64 (p.run + 1))) { b with hu := u3, hbs := bs3 } { p with h := p.h.add (newR p mins), run := p.run + 1 } := HXW.out.setOne rfl rfl rfl rfl rfl rfl
      obtain ⟨Av, cv, hve, hcv⟩ := own_shape hX4.ends
      have hve : b.ve = .slice Av p.ends.length cv := hve
      obtain ⟨As, cs, hvs, hcs⟩ := own_shape hX4.seen
      have hvs : b.vs = .slice As p.seen.length cs := hvs
      rw [show PlB.ve { b with hu := u3, hbs := bs3 } = b.ve from rfl, hve] at y5
      rw [show PlB.vs { b with hu := u3, hbs := bs3 } = b.vs from rfl, hvs] at y6
      have HX4 := Lib.hid hX4
      have HVE := Lib.hid hve
      have HVS := Lib.hid hvs
      have hX5 := hX4.fr0 ((Fr.refl No _).alloc (Obj.cells #[.int .i64 (-1)] 2))
      have HX5 := Lib.hid hX5
      have HE5 : Hid (World.ownsRow ((W.setCell ⟨b.p0, 4, none⟩ (.int .i64 (p.run + 1))).alloc (Obj.cells #[.int .i64 (-1)] 2)) B 2 1 (.slice Av p.ends.length cv) p.ends.length (encN p.ends)) := Lib.hid (by rw [← hve]; exact hX5.ends)
      have HL5 : Hid (Sl ((W.setCell ⟨b.p0, 4, none⟩ (.int .i64 (p.run + 1))).alloc (Obj.cells #[.int .i64 (-1)] 2)) 2 1 (some ⟨W.heap.size, 0, none⟩) 1 [.int .i64 (-1)]) := Lib.hid (by have h := Sl.of_new (W.setCell ⟨b.p0, 4, none⟩ (.int .i64 (p.run + 1))) 2 1 1 #[.int .i64 (-1)] [.int .i64 (-1)] rfl rfl; rw [World.size_setCell] at h; exact h)
      have HSZ := Lib.hid HXW.out.size
      have HF5 : Hid (Fr b.F w ((W.setCell ⟨b.p0, 4, none⟩ (.int .i64 (p.run + 1))).alloc (Obj.cells #[.int .i64 (-1)] 2))) := Lib.hid ((HFW.out.trans ((frP (b := b) W).mono fun k _ h => .inr (.inr (.inr h)))).alloc _)
      have HM5 := Lib.hid (((HMB.out.far (p := ⟨b.p0, 4, none⟩) HGP.out (.int .i64 (p.run + 1))).alloc (Obj.cells #[.int .i64 (-1)] 2)))
      have HLN := Lib.hid (show p.ends.length ≤ 1000000 ∧ p.seen.length ≤ 1000000 by have := HI.out.h.ends; have := HI.out.h.seenL; have := HM.out.hl; omega)
      clear hX4 hve hvs hX5 HMB
      go_wp2_with (at_builtin; apply stopHere)
      unfold StopHere
      go_loud (refine wpList_append_owned' (by rfl) (.tmp 60) (.tmp 61) 51 (by rfl) B 2 i0 _ 1 8 Try.underlying51 hi0 hz0 hz1 hz2 rfl (by omega) (.slice Av p.ends.length cv) p.ends.length (encN p.ends) (by rfl) HE5.out (some ⟨W.heap.size, 0, none⟩) 1 1 2 [.int .i64 (-1)] (by rfl) HL5.out (by simp [Value.oneCell']) (by have := HLN.out.1; simp only [maxLen]; omega) (by have := HLN.out.1; omega) (by have := HSZ.out; simp only [World.size_alloc, World.size_setCell]; omega) ?_)
      intro v6 w6 ho6 hg6 hat6
      obtain ⟨A6, c6, rfl, _⟩ := own_shape ho6
      obtain ⟨hX6, hF6⟩ := HX5.out.growEnds (x := -1) ho6 (by rw [show PlB.ve { b with hu := u3, hbs := bs3 } = b.ve from rfl, HVE.out]; exact hg6) (by rw [show PlB.ve { b with hu := u3, hbs := bs3 } = b.ve from rfl, HVE.out]; exact hat6)
      have hpe : Fr (fun k => some k = b.ve.ownBlock) ((W.setCell ⟨b.p0, 4, none⟩ (.int .i64 (p.run + 1))).alloc (Obj.cells #[.int .i64 (-1)] 2)) w6 := by rw [HVE.out]; exact Fr.of_grown hg6
      have hp6 := HX5.out.blk.fr hpe (fun e => HX5.out.ve_p0 e.symm rfl)
      have a5 := hp6.cell 5
      have a6 := hp6.cell 6
      have al := hp6.lt
      have az := hp6.frozens
      simp only [List.getElem?_cons_zero, List.getElem?_cons_succ] at a5 a6
      rw [show PlB.vs { b with hu := u3, hbs := bs3 } = b.vs from rfl, HVS.out] at a6
      rw [show PlB.ve { b with hu := u3, hbs := bs3 } = b.ve from rfl, HVE.out] at a5
      have HX6 := Lib.hid hX6
      have HAT6 := Lib.hid hat6
      have HF6 := Lib.hid (HF5.out.trans (hF6.mono fun k _ h => .inr (.inr (.inr h))))
      have hM6 := HM5.out.fr hF6 (fun e => HX5.out.no_msgP _ _ _ HM5.out e)
      have hX7 := hX6.fr0 ((Fr.refl No _).alloc (Obj.cells #[.int .i64 0] 3))
      have HX7 := Lib.hid hX7
      have HS7 : Hid (World.ownsRow ((w6.setCell ⟨b.p0, 5, none⟩ (.slice A6 (p.ends.length + 1) c6)).alloc (Obj.cells #[.int .i64 0] 3)) B 3 1 (.slice As p.seen.length cs) p.seen.length (encN p.seen)) := Lib.hid (by rw [← HVS.out]; exact hX7.seen)
      have HL7 : Hid (Sl ((w6.setCell ⟨b.p0, 5, none⟩ (.slice A6 (p.ends.length + 1) c6)).alloc (Obj.cells #[.int .i64 0] 3)) 3 1 (some ⟨w6.heap.size, 0, none⟩) 1 [.int .i64 0]) := Lib.hid (by have h := Sl.of_new (w6.setCell ⟨b.p0, 5, none⟩ (.slice A6 (p.ends.length + 1) c6)) 3 1 1 #[.int .i64 0] [.int .i64 0] rfl rfl; rw [World.size_setCell] at h; exact h)
      have HM7 := Lib.hid (hM6.alloc (Obj.cells #[.int .i64 0] 3))
      have HF7 := Lib.hid (HF6.out.alloc (Obj.cells #[.int .i64 0] 3))
      clear hX6 hF6 hpe hp6 hM6 hX7 ho6 hg6 hat6
      go_wp2_with (at_builtin; apply stopHere)
      unfold StopHere
      go_loud (refine wpList_append_owned' (by rfl) (.tmp 69) (.tmp 70) 52 (by rfl) B 3 j0 _ 1 8 Try.underlying52 hj0 jz0 jz1 jz2 rfl (by omega) (.slice As p.seen.length cs) p.seen.length (encN p.seen) (by rfl) HS7.out (some ⟨w6.heap.size, 0, none⟩) 1 1 3 [.int .i64 0] (by rfl) HL7.out (by simp [Value.oneCell']) (by have := HLN.out.2; simp only [maxLen]; omega) (by have := HLN.out.2; omega) (by have := HX7.out.size; simp only [World.size_alloc, World.size_setCell] at this ⊢; omega) ?_)
      intro v8 w8 ho8 hg8 hat8
      obtain ⟨A8, c8, rfl, _⟩ := own_shape ho8
      obtain ⟨hX8, hF8⟩ := HX7.out.growSeen (x := 0) ho8 (by rw [show PlB.vs { ({ b with hu := u3, hbs := bs3 } : PlB) with ve := .slice A6 (p.ends.length + 1) c6 } = b.vs from rfl, HVS.out]; exact hg8) (by rw [show PlB.vs { ({ b with hu := u3, hbs := bs3 } : PlB) with ve := .slice A6 (p.ends.length + 1) c6 } = b.vs from rfl, HVS.out]; exact hat8)
      have hps : Fr (fun k => some k = b.vs.ownBlock) ((w6.setCell ⟨b.p0, 5, none⟩ (.slice A6 (p.ends.length + 1) c6)).alloc (Obj.cells #[.int .i64 0] 3)) w8 := by rw [HVS.out]; exact Fr.of_grown hg8
      have hp8 := HX7.out.blk.fr hps (fun e => HX7.out.vs_p0 e.symm rfl)
      have s6 := hp8.cell 6
      have sl := hp8.lt
      have sz := hp8.frozens
      simp only [List.getElem?_cons_zero, List.getElem?_cons_succ] at s6
      have HX8 := Lib.hid hX8
      have HF8 := Lib.hid (HF7.out.step hF8 (fun k hk => by
        rcases hk with h | h | h
        · exact .inl (.inr (.inr (.inr (.inl h))))
        · have h : (Value.slice A6 (p.ends.length + 1) c6).ownBlock = some k := h
          rcases HAT6.out with e | e
          · rw [h] at e
            exact .inl (.inr (.inr (.inr (.inr (.inl (by rw [HVE.out]; exact e.symm))))))
          · rw [h] at e
            injection e with e
            have := HF5.out.size
            exact .inr (by omega)
        · exact .inl (.inr (.inr (.inr (.inr (.inr h)))))))
      have hM8 := HM7.out.fr hps (fun e => HX7.out.no_msgP _ _ _ HM7.out (.inr (.inr e.symm)))
      obtain ⟨q0, q1, q2, q3, q4, q5, q6, q7⟩ := hM8.cells8
      have q8 := hM8.lt
      have q9 := hM8.frozens
      have ngp := HGP.out
      have ngp' : ¬ b.p0 = w3.heap.size := fun e => ngp e.symm
      have HX9 := Lib.hid (HX8.out.fr0 ((Fr.refl No _).alloc (Obj.cells (startM (p.h.add (newR p mins)) (newR p mins)).vals.toArray 26)))
      have HL9 : Hid (Sl ((w8.setCell ⟨b.p0, 6, none⟩ (.slice A8 (p.seen.length + 1) c8)).alloc (Obj.cells (startM (p.h.add (newR p mins)) (newR p mins)).vals.toArray 26)) 26 8 (some ⟨w8.heap.size, 0, none⟩) 1 (startM (p.h.add (newR p mins)) (newR p mins)).vals) := Lib.hid (by have h := Sl.of_new (w8.setCell ⟨b.p0, 6, none⟩ (.slice A8 (p.seen.length + 1) c8)) 26 8 1 (startM (p.h.add (newR p mins)) (newR p mins)).vals.toArray (startM (p.h.add (newR p mins)) (newR p mins)).vals rfl rfl; rw [World.size_setCell] at h; exact h)
      clear hX8 hF8 hps hp8 hM8 ho8 hg8 hat8
      go_wp2_with (go_at_call 35; apply stopHere)
      unfold StopHere
      refine (lsend_any B _ _ (some ⟨w8.heap.size, 0, none⟩) 1 [startM (p.h.add (newR p mins)) (newR p mins)] _ HX9.out HL9.out (by simp)).mono ?_
      rintro e w10 ⟨⟨v10, rfl⟩, hX10, hF10⟩
      go_wp2_with (go_at_call 35; apply stopHere)
      refine bodyPost_end (v := .tuple #[]) (by simp [results, Try.results18, go_sem]) rfl ⟨{ b with hu := u3, hbs := bs3, ve := .slice A6 (p.ends.length + 1) c6, vs := .slice A8 (p.seen.length + 1) c8 }, ⟨_, rfl⟩, rfl, ?_, (HF8.out.alloc _).trans (hF10.mono fun k _ h => .inr (.inr (.inl (.inl h))))⟩
      rw [HST.out]
      exact hX10
    · skip
      refine wpO_loudE rfl fun K hK => ?_
      go_simp
      refine hK _ _ ⟨by (repeat (first | exact Fr.refl _ _ | assumption | refine Fr.drew ?_ | refine Fr.drewL ?_ | refine Fr.alloc ?_ _)), ?_⟩
      clear hK K
      repeat (first
        | (apply wpO_pure rfl rfl; (focus (intro w'; go_simp; (try rfl); done)); try simp only [Act.put, List.setIfInBounds_toArray, List.set_cons_zero, List.set_cons_succ])
        | (apply wpO_read rfl rfl; (focus (intro w' hf' hs'; (try simp only [World.size_drew, World.cell?_drew, World.size_alloc, World.size_setCell] at hs'); go_simp; (try rfl); done)); try simp only [Act.put, List.setIfInBounds_toArray, List.set_cons_zero, List.set_cons_succ])
        | (apply wpO_skip (by decide) rfl rfl; try simp only [Act.put, List.setIfInBounds_toArray, List.set_cons_zero, List.set_cons_succ]))
      have HA2 := Lib.hid (HX.out.fr0 (((Fr.refl No _).drew).alloc (Obj.cells zeroMsg.vals.toArray 26)))
      have HZ2 := Lib.hid (Blk.new (w.alloc (Obj.cells (AStep.vals ⟨sk, sn⟩).toArray 49)).drew 26 zeroMsg.vals)
      refine wpO_loud rfl fun K hK => ?_
      go_simp
      refine (lask_to B b p _ HA2.out.hub HI.out HM.out hKK hR mins hm0 hm1 HAR.out).mono ?_
      rintro e w3 ⟨u3, bs3, rfl, hH3, hF3, hN3⟩
      refine hK _ _ ?_
      clear hK K
      have hZ3 := HZ2.out.fr hF3 (fun e => HA2.out.hub.no_msg _ _ _ HZ2.out e)
      simp only [World.size_drew, World.size_alloc] at hZ3 hN3
      have HZ3 := Lib.hid hZ3
      obtain ⟨f0, f1, f2, f3, f4, f5, f6, f7⟩ := HZ3.out.cells8
      have f8 := HZ3.out.lt
      have f9 := HZ3.out.frozens
      have HF3 := Lib.hid hF3
      have HH3 := Lib.hid hH3
      have HN3 := Lib.hid hN3
      clear hF3 hH3 hN3 hZ3
      repeat (first
        | (apply wpO_pure rfl rfl; (focus (intro w'; go_simp; (try rfl); done)); try simp only [Act.put, List.setIfInBounds_toArray, List.set_cons_zero, List.set_cons_succ])
        | (apply wpO_read rfl rfl; (focus (intro w' hf' hs'; (try simp only [World.size_drew, World.cell?_drew, World.size_alloc, World.size_setCell] at hs'); go_simp; (try rfl); done)); try simp only [Act.put, List.setIfInBounds_toArray, List.set_cons_zero, List.set_cons_succ])
        | (apply wpO_skip (by decide) rfl rfl; try simp only [Act.put, List.setIfInBounds_toArray, List.set_cons_zero, List.set_cons_succ]))
      refine wpO_loud rfl fun K hK => ?_
      go_simp
      refine hK _ _ ?_
      clear hK K
      repeat (first
        | (apply wpO_pure rfl rfl; (focus (intro w'; go_simp; (try rfl); done)); try simp only [Act.put, List.setIfInBounds_toArray, List.set_cons_zero, List.set_cons_succ])
        | (apply wpO_read rfl rfl; (focus (intro w' hf' hs'; (try simp only [World.size_drew, World.cell?_drew, World.size_alloc, World.size_setCell] at hs'); go_simp; (try rfl); done)); try simp only [Act.put, List.setIfInBounds_toArray, List.set_cons_zero, List.set_cons_succ])
        | (apply wpO_skip (by decide) rfl rfl; try simp only [Act.put, List.setIfInBounds_toArray, List.set_cons_zero, List.set_cons_succ]))
      repeat (first
        | (apply wpO_pure rfl rfl; (focus (intro w'; go_simp; (try rfl); done)); try simp only [Act.put, List.setIfInBounds_toArray, List.set_cons_zero, List.set_cons_succ])
        | (apply wpO_read rfl rfl; (focus (intro w' hf' hs'; (try simp only [World.size_drew, World.cell?_drew, World.size_alloc, World.size_setCell] at hs'); go_simp; (try rfl); done)); try simp only [Act.put, List.setIfInBounds_toArray, List.set_cons_zero, List.set_cons_succ])
        | (apply wpO_skip (by decide) rfl rfl; try simp only [Act.put, List.setIfInBounds_toArray, List.set_cons_zero, List.set_cons_succ]))
      refine wpO_nil ?_
      generalize hW : World.setCell _ _ _ = W
      have hFS : Fr (fun k => k = w.heap.size + 1) w3 W := by subst hW; exact fr_set8 (S := fun k => k = w.heap.size + 1) (x := (startM (p.h.add (newR p mins)) (newR p mins))) rfl
      have hF1 : Fr b.H (w.alloc (Obj.cells (AStep.vals ⟨sk, sn⟩).toArray 49)) W := ((((Fr.refl No _).drew.alloc _).any _).trans HF3.out).step hFS fun k e => .inr (by have e : k = w.heap.size + 1 := e; rw [e, World.size_alloc]; exact Nat.le_refl _)
      have HXW := Lib.hid (HX.out.turnH (HH3.out.fr hFS fun k hk e => by have e : k = w.heap.size + 1 := e; subst e; exact HH3.out.no_msg _ _ _ HZ3.out hk) hF1 fun k hk => (HN3.out k hk).imp id fun h => by rw [World.size_alloc]; omega)
      have HMB : Hid (Blk W (w.heap.size + 1) 26 (Msg.vals (startM (p.h.add (newR p mins)) (newR p mins)))) := Lib.hid (by subst hW; exact HZ3.out.set8 (startM (p.h.add (newR p mins)) (newR p mins)))
      have HFW : Hid (Fr b.F w W) := Lib.hid ((((Fr.refl No w).alloc _).any _).trans (hF1.mono fun k _ h => .inl h))
      have HGP : Hid (¬ w.heap.size + 1 = b.p0) := Lib.hid (by have := HX.out.blk.lt; rw [World.size_alloc] at this; omega)
      clear hW hFS hF1 f0 f1 f2 f3 f4 f5 f6 f7 f8 f9 y0 y3 y4 yl HX HF3 HZ3 HZ2 HA2 HH3 HN3
      have y4 := HXW.out.blk.cell 4
      have y5 := HXW.out.blk.cell 5
      have y6 := HXW.out.blk.cell 6
      have yl := HXW.out.blk.lt
      have yz := HXW.out.blk.frozens
      simp only [List.getElem?_cons_zero, List.getElem?_cons_succ] at y4 y5 y6
      have hX4 : PlAt B (W.setCell ⟨b.p0, 4, none⟩ (.int .i64 (p.run + 1))) { b with hu := u3, hbs := bs3 } { p with h := p.h.add (newR p mins), run := p.run + 1 } := HXW.out.setOne rfl rfl rfl rfl rfl rfl
      obtain ⟨Av, cv, hve, hcv⟩ := own_shape hX4.ends
      have hve : b.ve = .slice Av p.ends.length cv := hve
      obtain ⟨As, cs, hvs, hcs⟩ := own_shape hX4.seen
      have hvs : b.vs = .slice As p.seen.length cs := hvs
      rw [show PlB.ve { b with hu := u3, hbs := bs3 } = b.ve from rfl, hve] at y5
      rw [show PlB.vs { b with hu := u3, hbs := bs3 } = b.vs from rfl, hvs] at y6
      have HX4 := Lib.hid hX4
      have HVE := Lib.hid hve
      have HVS := Lib.hid hvs
      have hX5 := hX4.fr0 ((Fr.refl No _).alloc (Obj.cells #[.int .i64 (-1)] 2))
      have HX5 := Lib.hid hX5
      have HE5 : Hid (World.ownsRow ((W.setCell ⟨b.p0, 4, none⟩ (.int .i64 (p.run + 1))).alloc (Obj.cells #[.int .i64 (-1)] 2)) B 2 1 (.slice Av p.ends.length cv) p.ends.length (encN p.ends)) := Lib.hid (by rw [← hve]; exact hX5.ends)
      have HL5 : Hid (Sl ((W.setCell ⟨b.p0, 4, none⟩ (.int .i64 (p.run + 1))).alloc (Obj.cells #[.int .i64 (-1)] 2)) 2 1 (some ⟨W.heap.size, 0, none⟩) 1 [.int .i64 (-1)]) := Lib.hid (by have h := Sl.of_new (W.setCell ⟨b.p0, 4, none⟩ (.int .i64 (p.run + 1))) 2 1 1 #[.int .i64 (-1)] [.int .i64 (-1)] rfl rfl; rw [World.size_setCell] at h; exact h)
      have HSZ := Lib.hid HXW.out.size
      have HF5 : Hid (Fr b.F w ((W.setCell ⟨b.p0, 4, none⟩ (.int .i64 (p.run + 1))).alloc (Obj.cells #[.int .i64 (-1)] 2))) := Lib.hid ((HFW.out.trans ((frP (b := b) W).mono fun k _ h => .inr (.inr (.inr h)))).alloc _)
      have HM5 := Lib.hid (((HMB.out.far (p := ⟨b.p0, 4, none⟩) HGP.out (.int .i64 (p.run + 1))).alloc (Obj.cells #[.int .i64 (-1)] 2)))
      have HLN := Lib.hid (show p.ends.length ≤ 1000000 ∧ p.seen.length ≤ 1000000 by have := HI.out.h.ends; have := HI.out.h.seenL; have := HM.out.hl; omega)
      clear hX4 hve hvs hX5 HMB
      go_wp2_with (at_builtin; apply stopHere)
      unfold StopHere
      go_loud (refine wpList_append_owned' (by rfl) (.tmp 60) (.tmp 61) 51 (by rfl) B 2 i0 _ 1 8 Try.underlying51 hi0 hz0 hz1 hz2 rfl (by omega) (.slice Av p.ends.length cv) p.ends.length (encN p.ends) (by rfl) HE5.out (some ⟨W.heap.size, 0, none⟩) 1 1 2 [.int .i64 (-1)] (by rfl) HL5.out (by simp [Value.oneCell']) (by have := HLN.out.1; simp only [maxLen]; omega) (by have := HLN.out.1; omega) (by have := HSZ.out; simp only [World.size_alloc, World.size_setCell]; omega) ?_)
      intro v6 w6 ho6 hg6 hat6
      obtain ⟨A6, c6, rfl, _⟩ := own_shape ho6
      obtain ⟨hX6, hF6⟩ := HX5.out.growEnds (x := -1) ho6 (by rw [show PlB.ve { b with hu := u3, hbs := bs3 } = b.ve from rfl, HVE.out]; exact hg6) (by rw [show PlB.ve { b with hu := u3, hbs := bs3 } = b.ve from rfl, HVE.out]; exact hat6)
      have hpe : Fr (fun k => some k = b.ve.ownBlock) ((W.setCell ⟨b.p0, 4, none⟩ (.int .i64 (p.run + 1))).alloc (Obj.cells #[.int .i64 (-1)] 2)) w6 := by rw [HVE.out]; exact Fr.of_grown hg6
      have hp6 := HX5.out.blk.fr hpe (fun e => HX5.out.ve_p0 e.symm rfl)
      have a5 := hp6.cell 5
      have a6 := hp6.cell 6
      have al := hp6.lt
      have az := hp6.frozens
      simp only [List.getElem?_cons_zero, List.getElem?_cons_succ] at a5 a6
      rw [show PlB.vs { b with hu := u3, hbs := bs3 } = b.vs from rfl, HVS.out] at a6
      rw [show PlB.ve { b with hu := u3, hbs := bs3 } = b.ve from rfl, HVE.out] at a5
      have HX6 := Lib.hid hX6
      have HAT6 := Lib.hid hat6
      have HF6 := Lib.hid (HF5.out.trans (hF6.mono fun k _ h => .inr (.inr (.inr h))))
      have hM6 := HM5.out.fr hF6 (fun e => HX5.out.no_msgP _ _ _ HM5.out e)
      have hX7 := hX6.fr0 ((Fr.refl No _).alloc (Obj.cells #[.int .i64 0] 3))
      have HX7 := Lib.hid hX7
      have HS7 : Hid (World.ownsRow ((w6.setCell ⟨b.p0, 5, none⟩ (.slice A6 (p.ends.length + 1) c6)).alloc (Obj.cells #[.int .i64 0] 3)) B 3 1 (.slice As p.seen.length cs) p.seen.length (encN p.seen)) := Lib.hid (by rw [← HVS.out]; exact hX7.seen)
      have HL7 : Hid (Sl ((w6.setCell ⟨b.p0, 5, none⟩ (.slice A6 (p.ends.length + 1) c6)).alloc (Obj.cells #[.int .i64 0] 3)) 3 1 (some ⟨w6.heap.size, 0, none⟩) 1 [.int .i64 0]) := Lib.hid (by have h := Sl.of_new (w6.setCell ⟨b.p0, 5, none⟩ (.slice A6 (p.ends.length + 1) c6)) 3 1 1 #[.int .i64 0] [.int .i64 0] rfl rfl; rw [World.size_setCell] at h; exact h)
      have HM7 := Lib.hid (hM6.alloc (Obj.cells #[.int .i64 0] 3))
      have HF7 := Lib.hid (HF6.out.alloc (Obj.cells #[.int .i64 0] 3))
      clear hX6 hF6 hpe hp6 hM6 hX7 ho6 hg6 hat6
      go_wp2_with (at_builtin; apply stopHere)
      unfold StopHere
      go_loud (refine wpList_append_owned' (by rfl) (.tmp 69) (.tmp 70) 52 (by rfl) B 3 j0 _ 1 8 Try.underlying52 hj0 jz0 jz1 jz2 rfl (by omega) (.slice As p.seen.length cs) p.seen.length (encN p.seen) (by rfl) HS7.out (some ⟨w6.heap.size, 0, none⟩) 1 1 3 [.int .i64 0] (by rfl) HL7.out (by simp [Value.oneCell']) (by have := HLN.out.2; simp only [maxLen]; omega) (by have := HLN.out.2; omega) (by have := HX7.out.size; simp only [World.size_alloc, World.size_setCell] at this ⊢; omega) ?_)
      intro v8 w8 ho8 hg8 hat8
      obtain ⟨A8, c8, rfl, _⟩ := own_shape ho8
      obtain ⟨hX8, hF8⟩ := HX7.out.growSeen (x := 0) ho8 (by rw [show PlB.vs { ({ b with hu := u3, hbs := bs3 } : PlB) with ve := .slice A6 (p.ends.length + 1) c6 } = b.vs from rfl, HVS.out]; exact hg8) (by rw [show PlB.vs { ({ b with hu := u3, hbs := bs3 } : PlB) with ve := .slice A6 (p.ends.length + 1) c6 } = b.vs from rfl, HVS.out]; exact hat8)
      have hps : Fr (fun k => some k = b.vs.ownBlock) ((w6.setCell ⟨b.p0, 5, none⟩ (.slice A6 (p.ends.length + 1) c6)).alloc (Obj.cells #[.int .i64 0] 3)) w8 := by rw [HVS.out]; exact Fr.of_grown hg8
      have hp8 := HX7.out.blk.fr hps (fun e => HX7.out.vs_p0 e.symm rfl)
      have s6 := hp8.cell 6
      have sl := hp8.lt
      have sz := hp8.frozens
      simp only [List.getElem?_cons_zero, List.getElem?_cons_succ] at s6
      have HX8 := Lib.hid hX8
      have HF8 := Lib.hid (HF7.out.step hF8 (fun k hk => by
        rcases hk with h | h | h
        · exact .inl (.inr (.inr (.inr (.inl h))))
        · have h : (Value.slice A6 (p.ends.length + 1) c6).ownBlock = some k := h
          rcases HAT6.out with e | e
          · rw [h] at e
            exact .inl (.inr (.inr (.inr (.inr (.inl (by rw [HVE.out]; exact e.symm))))))
          · rw [h] at e
            injection e with e
            have := HF5.out.size
            exact .inr (by omega)
        · exact .inl (.inr (.inr (.inr (.inr (.inr h)))))))
      have hM8 := HM7.out.fr hps (fun e => HX7.out.no_msgP _ _ _ HM7.out (.inr (.inr e.symm)))
      obtain ⟨q0, q1, q2, q3, q4, q5, q6, q7⟩ := hM8.cells8
      have q8 := hM8.lt
      have q9 := hM8.frozens
      have ngp := HGP.out
      have ngp' : ¬ b.p0 = w.heap.size + 1 := fun e => ngp e.symm
      have HX9 := Lib.hid (HX8.out.fr0 ((Fr.refl No _).alloc (Obj.cells (startM (p.h.add (newR p mins)) (newR p mins)).vals.toArray 26)))
      have HL9 : Hid (Sl ((w8.setCell ⟨b.p0, 6, none⟩ (.slice A8 (p.seen.length + 1) c8)).alloc (Obj.cells (startM (p.h.add (newR p mins)) (newR p mins)).vals.toArray 26)) 26 8 (some ⟨w8.heap.size, 0, none⟩) 1 (startM (p.h.add (newR p mins)) (newR p mins)).vals) := Lib.hid (by have h := Sl.of_new (w8.setCell ⟨b.p0, 6, none⟩ (.slice A8 (p.seen.length + 1) c8)) 26 8 1 (startM (p.h.add (newR p mins)) (newR p mins)).vals.toArray (startM (p.h.add (newR p mins)) (newR p mins)).vals rfl rfl; rw [World.size_setCell] at h; exact h)
      clear hX8 hF8 hps hp8 hM8 ho8 hg8 hat8
      go_wp2_with (go_at_call 35; apply stopHere)
      unfold StopHere
      refine (lsend_any B _ _ (some ⟨w8.heap.size, 0, none⟩) 1 [startM (p.h.add (newR p mins)) (newR p mins)] _ HX9.out HL9.out (by simp)).mono ?_
      rintro e w10 ⟨⟨v10, rfl⟩, hX10, hF10⟩
      go_wp2_with (go_at_call 35; apply stopHere)
      refine bodyPost_end (v := .tuple #[]) (by simp [results, Try.results18, go_sem]) rfl ⟨{ b with hu := u3, hbs := bs3, ve := .slice A6 (p.ends.length + 1) c6, vs := .slice A8 (p.seen.length + 1) c8 }, ⟨_, rfl⟩, rfl, ?_, (HF8.out.alloc _).trans (hF10.mono fun k _ h => .inr (.inr (.inl (.inl h))))⟩
      rw [HST.out]
      exact hX10
  · have k0 : (sk == 0) = false := by simp only at h; rw [h]; rfl
    have k1 : (sk == 1) = true := by simpa using h
    clear h
    go_enter Try.func18, Try.ntmps18
    go_wp2
    refine wp_region_b [(0, 0), (1, 0), (2, 0), (4, 0), (5, 0), (6, 0), (9, 0), (12, 0), (13, 0), (14, 0), (18, 0), (19, 0), (20, 0), (3, 1), (7, 1), (8, 0), (10, 1), (15, 1), (16, 0), (17, 0), (21, 1), (11, 1)] 22 3 26 2 [(23, 0), (24, 0), (25, 0), (26, 2), (27, 3), (28, 0)] [(22, 3), (23, 0), (24, 0), (25, 0), (27, 3), (28, 0)] (by kernel_rfl) (by kernel_rfl) ?_
    repeat (first
      | (apply wpO_pure rfl rfl; (focus (intro w'; go_simp; (try rfl); done)); try simp only [Act.put, List.setIfInBounds_toArray, List.set_cons_zero, List.set_cons_succ])
      | (apply wpO_read rfl rfl; (focus (intro w' hf' hs'; (try simp only [World.size_drew, World.cell?_drew, World.size_alloc, World.size_setCell] at hs'); go_simp; (try rfl); done)); try simp only [Act.put, List.setIfInBounds_toArray, List.set_cons_zero, List.set_cons_succ])
      | (apply wpO_skip (by decide) rfl rfl; try simp only [Act.put, List.setIfInBounds_toArray, List.set_cons_zero, List.set_cons_succ]))
    apply wpO_call (v := .int .i64 mins) 34 #[.int .i64 sn, .int .i64 12] rfl rfl
    (focus (intro w'; go_simp; (try rfl); done))
    (focus (intro w' hf'; exact count_same HC.out _ HO.out.1 HO.out.2 (by omega) (by omega)))
    try simp only [Act.put, List.setIfInBounds_toArray, List.set_cons_zero, List.set_cons_succ]
    refine br_both ?_ ?_
    · skip
      refine wpO_loud rfl fun K hK => ?_
      go_simp
      refine (lask_to B b p _ (HX.out.fr0 (by (repeat (first | exact Fr.refl _ _ | assumption | refine Fr.drew ?_ | refine Fr.drewL ?_ | refine Fr.alloc ?_ _)))).hub HI.out HM.out hKK hR mins hm0 hm1 HAR.out).mono ?_
      rintro e w3 ⟨u3, bs3, rfl, hH3, hF3, hN3⟩
      refine hK _ _ ?_
      clear hK K
      have HX3 := Lib.hid ((HX.out.fr0 (by (repeat (first | exact Fr.refl _ _ | assumption | refine Fr.drew ?_ | refine Fr.drewL ?_ | refine Fr.alloc ?_ _)))).turnH hH3 hF3 hN3)
      have HF3 : Hid (Fr b.F w w3) := Lib.hid ((((Fr.refl No w).alloc _).drew.any _).trans (hF3.mono fun k _ h => .inl h))
      clear hH3 hF3 hN3
      repeat (first
        | (apply wpO_pure rfl rfl; (focus (intro w'; go_simp; (try rfl); done)); try simp only [Act.put, List.setIfInBounds_toArray, List.set_cons_zero, List.set_cons_succ])
        | (apply wpO_read rfl rfl; (focus (intro w' hf' hs'; (try simp only [World.size_drew, World.cell?_drew, World.size_alloc, World.size_setCell] at hs'); go_simp; (try rfl); done)); try simp only [Act.put, List.setIfInBounds_toArray, List.set_cons_zero, List.set_cons_succ])
        | (apply wpO_skip (by decide) rfl rfl; try simp only [Act.put, List.setIfInBounds_toArray, List.set_cons_zero, List.set_cons_succ]))
      refine wpO_loudE rfl fun K hK => ?_
      go_simp
      refine hK _ _ ⟨by (repeat (first | exact Fr.refl _ _ | assumption | refine Fr.drew ?_ | refine Fr.drewL ?_ | refine Fr.alloc ?_ _)), ?_⟩
      clear hK K
      repeat (first
        | (apply wpO_pure rfl rfl; (focus (intro w'; go_simp; (try rfl); done)); try simp only [Act.put, List.setIfInBounds_toArray, List.set_cons_zero, List.set_cons_succ])
        | (apply wpO_read rfl rfl; (focus (intro w' hf' hs'; (try simp only [World.size_drew, World.cell?_drew, World.size_alloc, World.size_setCell] at hs'); go_simp; (try rfl); done)); try simp only [Act.put, List.setIfInBounds_toArray, List.set_cons_zero, List.set_cons_succ])
        | (apply wpO_skip (by decide) rfl rfl; try simp only [Act.put, List.setIfInBounds_toArray, List.set_cons_zero, List.set_cons_succ]))
      refine wpO_loud rfl fun K hK => ?_
      go_simp
      refine hK _ _ ?_
      clear hK K
      repeat (first
        | (apply wpO_pure rfl rfl; (focus (intro w'; go_simp; (try rfl); done)); try simp only [Act.put, List.setIfInBounds_toArray, List.set_cons_zero, List.set_cons_succ])
        | (apply wpO_read rfl rfl; (focus (intro w' hf' hs'; (try simp only [World.size_drew, World.cell?_drew, World.size_alloc, World.size_setCell] at hs'); go_simp; (try rfl); done)); try simp only [Act.put, List.setIfInBounds_toArray, List.set_cons_zero, List.set_cons_succ])
        | (apply wpO_skip (by decide) rfl rfl; try simp only [Act.put, List.setIfInBounds_toArray, List.set_cons_zero, List.set_cons_succ]))
      repeat (first
        | (apply wpO_pure rfl rfl; (focus (intro w'; go_simp; (try rfl); done)); try simp only [Act.put, List.setIfInBounds_toArray, List.set_cons_zero, List.set_cons_succ])
        | (apply wpO_read rfl rfl; (focus (intro w' hf' hs'; (try simp only [World.size_drew, World.cell?_drew, World.size_alloc, World.size_setCell] at hs'); go_simp; (try rfl); done)); try simp only [Act.put, List.setIfInBounds_toArray, List.set_cons_zero, List.set_cons_succ])
        | (apply wpO_skip (by decide) rfl rfl; try simp only [Act.put, List.setIfInBounds_toArray, List.set_cons_zero, List.set_cons_succ]))
      refine wpO_nil ?_
      generalize hW : World.alloc w3 _ = W
      have HXW := Lib.hid (HX3.out.fr0 (show Fr No w3 W by subst hW; exact (Fr.refl No w3).alloc _))
      have HMB : Hid (Blk W w3.heap.size 26 (Msg.vals (startM (p.h.add (newR p mins)) (newR p mins)))) := Lib.hid (by subst hW; exact Blk.new w3 _ _)
      have HFW : Hid (Fr b.F w W) := Lib.hid (by subst hW; exact HF3.out.alloc _)
      have HGP : Hid (¬ w3.heap.size = b.p0) := Lib.hid (by have := HX3.out.blk.lt; intro e; have e2 : b.p0 < w3.heap.size := this; omega)
      clear hW y0 y3 y4 yl HX HX3 HF3
      have y4 := HXW.out.blk.cell 4
      have y5 := HXW.out.blk.cell 5
      have y6 := HXW.out.blk.cell 6
      have yl := HXW.out.blk.lt
      have yz := HXW.out.blk.frozens
      simp only [List.getElem?_cons_zero, List.getElem?_cons_succ] at y4 y5 y6
      have hX4 : PlAt B (W.setCell ⟨b.p0, 4, none⟩ (.int .i64 (p.run + 1))) { b with hu := u3, hbs := bs3 } { p with h := p.h.add (newR p mins), run := p.run + 1 } := HXW.out.setOne rfl rfl rfl rfl rfl rfl
      obtain ⟨Av, cv, hve, hcv⟩ := own_shape hX4.ends
      have hve : b.ve = .slice Av p.ends.length cv := hve
      obtain ⟨As, cs, hvs, hcs⟩ := own_shape hX4.seen
      have hvs : b.vs = .slice As p.seen.length cs := hvs
      rw [show PlB.ve { b with hu := u3, hbs := bs3 } = b.ve from rfl, hve] at y5
      rw [show PlB.vs { b with hu := u3, hbs := bs3 } = b.vs from rfl, hvs] at y6
      have HX4 := Lib.hid hX4
      have HVE := Lib.hid hve
      have HVS := Lib.hid hvs
      have hX5 := hX4.fr0 ((Fr.refl No _).alloc (Obj.cells #[.int .i64 (-1)] 2))
      have HX5 := Lib.hid hX5
      have HE5 : Hid (World.ownsRow ((W.setCell ⟨b.p0, 4, none⟩ (.int .i64 (p.run + 1))).alloc (Obj.cells #[.int .i64 (-1)] 2)) B 2 1 (.slice Av p.ends.length cv) p.ends.length (encN p.ends)) := Lib.hid (by rw [← hve]; exact hX5.ends)
      have HL5 : Hid (Sl ((W.setCell ⟨b.p0, 4, none⟩ (.int .i64 (p.run + 1))).alloc (Obj.cells #[.int .i64 (-1)] 2)) 2 1 (some ⟨W.heap.size, 0, none⟩) 1 [.int .i64 (-1)]) := Lib.hid (by have h := Sl.of_new (W.setCell ⟨b.p0, 4, none⟩ (.int .i64 (p.run + 1))) 2 1 1 #[.int .i64 (-1)] [.int .i64 (-1)] rfl rfl; rw [World.size_setCell] at h; exact h)
      have HSZ := Lib.hid HXW.out.size
      have HF5 : Hid (Fr b.F w ((W.setCell ⟨b.p0, 4, none⟩ (.int .i64 (p.run + 1))).alloc (Obj.cells #[.int .i64 (-1)] 2))) := Lib.hid ((HFW.out.trans ((frP (b := b) W).mono fun k _ h => .inr (.inr (.inr h)))).alloc _)
      have HM5 := Lib.hid (((HMB.out.far (p := ⟨b.p0, 4, none⟩) HGP.out (.int .i64 (p.run + 1))).alloc (Obj.cells #[.int .i64 (-1)] 2)))
      have HLN := Lib.hid (show p.ends.length ≤ 1000000 ∧ p.seen.length ≤ 1000000 by have := HI.out.h.ends; have := HI.out.h.seenL; have := HM.out.hl; omega)
      clear hX4 hve hvs hX5 HMB
      go_wp2_with (at_builtin; apply stopHere)
      unfold StopHere
      go_loud (refine wpList_append_owned' (by rfl) (.tmp 60) (.tmp 61) 51 (by rfl) B 2 i0 _ 1 8 Try.underlying51 hi0 hz0 hz1 hz2 rfl (by omega) (.slice Av p.ends.length cv) p.ends.length (encN p.ends) (by rfl) HE5.out (some ⟨W.heap.size, 0, none⟩) 1 1 2 [.int .i64 (-1)] (by rfl) HL5.out (by simp [Value.oneCell']) (by have := HLN.out.1; simp only [maxLen]; omega) (by have := HLN.out.1; omega) (by have := HSZ.out; simp only [World.size_alloc, World.size_setCell]; omega) ?_)
      intro v6 w6 ho6 hg6 hat6
      obtain ⟨A6, c6, rfl, _⟩ := own_shape ho6
      obtain ⟨hX6, hF6⟩ := HX5.out.growEnds (x := -1) ho6 (by rw [show PlB.ve { b with hu := u3, hbs := bs3 } = b.ve from rfl, HVE.out]; exact hg6) (by rw [show PlB.ve { b with hu := u3, hbs := bs3 } = b.ve from rfl, HVE.out]; exact hat6)
      have hpe : Fr (fun k => some k = b.ve.ownBlock) ((W.setCell ⟨b.p0, 4, none⟩ (.int .i64 (p.run + 1))).alloc (Obj.cells #[.int .i64 (-1)] 2)) w6 := by rw [HVE.out]; exact Fr.of_grown hg6
      have hp6 := HX5.out.blk.fr hpe (fun e => HX5.out.ve_p0 e.symm rfl)
      have a5 := hp6.cell 5
      have a6 := hp6.cell 6
      have al := hp6.lt
      have az := hp6.frozens
      simp only [List.getElem?_cons_zero, List.getElem?_cons_succ] at a5 a6
      rw [show PlB.vs { b with hu := u3, hbs := bs3 } = b.vs from rfl, HVS.out] at a6
      rw [show PlB.ve { b with hu := u3, hbs := bs3 } = b.ve from rfl, HVE.out] at a5
      have HX6 := Lib.hid hX6
      have HAT6 := Lib.hid hat6
      have HF6 := Lib.hid (HF5.out.trans (hF6.mono fun k _ h => .inr (.inr (.inr h))))
      have hM6 := HM5.out.fr hF6 (fun e => HX5.out.no_msgP _ _ _ HM5.out e)
      have hX7 := hX6.fr0 ((Fr.refl No _).alloc (Obj.cells #[.int .i64 0] 3))
      have HX7 := Lib.hid hX7
      have HS7 : Hid (World.ownsRow ((w6.setCell ⟨b.p0, 5, none⟩ (.slice A6 (p.ends.length + 1) c6)).alloc (Obj.cells #[.int .i64 0] 3)) B 3 1 (.slice As p.seen.length cs) p.seen.length (encN p.seen)) := Lib.hid (by rw [← HVS.out]; exact hX7.seen)
      have HL7 : Hid (Sl ((w6.setCell ⟨b.p0, 5, none⟩ (.slice A6 (p.ends.length + 1) c6)).alloc (Obj.cells #[.int .i64 0] 3)) 3 1 (some ⟨w6.heap.size, 0, none⟩) 1 [.int .i64 0]) := Lib.hid (by have h := Sl.of_new (w6.setCell ⟨b.p0, 5, none⟩ (.slice A6 (p.ends.length + 1) c6)) 3 1 1 #[.int .i64 0] [.int .i64 0] rfl rfl; rw [World.size_setCell] at h; exact h)
      have HM7 := Lib.hid (hM6.alloc (Obj.cells #[.int .i64 0] 3))
      have HF7 := Lib.hid (HF6.out.alloc (Obj.cells #[.int .i64 0] 3))
      clear hX6 hF6 hpe hp6 hM6 hX7 ho6 hg6 hat6
      go_wp2_with (at_builtin; apply stopHere)
      unfold StopHere
      go_loud (refine wpList_append_owned' (by rfl) (.tmp 69) (.tmp 70) 52 (by rfl) B 3 j0 _ 1 8 Try.underlying52 hj0 jz0 jz1 jz2 rfl (by omega) (.slice As p.seen.length cs) p.seen.length (encN p.seen) (by rfl) HS7.out (some ⟨w6.heap.size, 0, none⟩) 1 1 3 [.int .i64 0] (by rfl) HL7.out (by simp [Value.oneCell']) (by have := HLN.out.2; simp only [maxLen]; omega) (by have := HLN.out.2; omega) (by have := HX7.out.size; simp only [World.size_alloc, World.size_setCell] at this ⊢; omega) ?_)
      intro v8 w8 ho8 hg8 hat8
      obtain ⟨A8, c8, rfl, _⟩ := own_shape ho8
      obtain ⟨hX8, hF8⟩ := HX7.out.growSeen (x := 0) ho8 (by rw [show PlB.vs { ({ b with hu := u3, hbs := bs3 } : PlB) with ve := .slice A6 (p.ends.length + 1) c6 } = b.vs from rfl, HVS.out]; exact hg8) (by rw [show PlB.vs { ({ b with hu := u3, hbs := bs3 } : PlB) with ve := .slice A6 (p.ends.length + 1) c6 } = b.vs from rfl, HVS.out]; exact hat8)
      have hps : Fr (fun k => some k = b.vs.ownBlock) ((w6.setCell ⟨b.p0, 5, none⟩ (.slice A6 (p.ends.length + 1) c6)).alloc (Obj.cells #[.int .i64 0] 3)) w8 := by rw [HVS.out]; exact Fr.of_grown hg8
      have hp8 := HX7.out.blk.fr hps (fun e => HX7.out.vs_p0 e.symm rfl)
      have s6 := hp8.cell 6
      have sl := hp8.lt
      have sz := hp8.frozens
      simp only [List.getElem?_cons_zero, List.getElem?_cons_succ] at s6
      have HX8 := Lib.hid hX8
      have HF8 := Lib.hid (HF7.out.step hF8 (fun k hk => by
        rcases hk with h | h | h
        · exact .inl (.inr (.inr (.inr (.inl h))))
        · have h : (Value.slice A6 (p.ends.length + 1) c6).ownBlock = some k := h
          rcases HAT6.out with e | e
          · rw [h] at e
            exact .inl (.inr (.inr (.inr (.inr (.inl (by rw [HVE.out]; exact e.symm))))))
          · rw [h] at e
            injection e with e
            have := HF5.out.size
            exact .inr (by omega)
        · exact .inl (.inr (.inr (.inr (.inr (.inr h)))))))
      have hM8 := HM7.out.fr hps (fun e => HX7.out.no_msgP _ _ _ HM7.out (.inr (.inr e.symm)))
      obtain ⟨q0, q1, q2, q3, q4, q5, q6, q7⟩ := hM8.cells8
      have q8 := hM8.lt
      have q9 := hM8.frozens
      have ngp := HGP.out
      have ngp' : ¬ b.p0 = w3.heap.size := fun e => ngp e.symm
      have HX9 := Lib.hid (HX8.out.fr0 ((Fr.refl No _).alloc (Obj.cells (startM (p.h.add (newR p mins)) (newR p mins)).vals.toArray 26)))
      have HL9 : Hid (Sl ((w8.setCell ⟨b.p0, 6, none⟩ (.slice A8 (p.seen.length + 1) c8)).alloc (Obj.cells (startM (p.h.add (newR p mins)) (newR p mins)).vals.toArray 26)) 26 8 (some ⟨w8.heap.size, 0, none⟩) 1 (startM (p.h.add (newR p mins)) (newR p mins)).vals) := Lib.hid (by have h := Sl.of_new (w8.setCell ⟨b.p0, 6, none⟩ (.slice A8 (p.seen.length + 1) c8)) 26 8 1 (startM (p.h.add (newR p mins)) (newR p mins)).vals.toArray (startM (p.h.add (newR p mins)) (newR p mins)).vals rfl rfl; rw [World.size_setCell] at h; exact h)
      clear hX8 hF8 hps hp8 hM8 ho8 hg8 hat8
      go_wp2_with (go_at_call 35; apply stopHere)
      unfold StopHere
      refine (lsend_any B _ _ (some ⟨w8.heap.size, 0, none⟩) 1 [startM (p.h.add (newR p mins)) (newR p mins)] _ HX9.out HL9.out (by simp)).mono ?_
      rintro e w10 ⟨⟨v10, rfl⟩, hX10, hF10⟩
      go_wp2_with (go_at_call 35; apply stopHere)
      refine bodyPost_end (v := .tuple #[]) (by simp [results, Try.results18, go_sem]) rfl ⟨{ b with hu := u3, hbs := bs3, ve := .slice A6 (p.ends.length + 1) c6, vs := .slice A8 (p.seen.length + 1) c8 }, ⟨_, rfl⟩, rfl, ?_, (HF8.out.alloc _).trans (hF10.mono fun k _ h => .inr (.inr (.inl (.inl h))))⟩
      rw [HST.out]
      exact hX10
    · skip
      refine wpO_loudE rfl fun K hK => ?_
      go_simp
      refine hK _ _ ⟨by (repeat (first | exact Fr.refl _ _ | assumption | refine Fr.drew ?_ | refine Fr.drewL ?_ | refine Fr.alloc ?_ _)), ?_⟩
      clear hK K
      repeat (first
        | (apply wpO_pure rfl rfl; (focus (intro w'; go_simp; (try rfl); done)); try simp only [Act.put, List.setIfInBounds_toArray, List.set_cons_zero, List.set_cons_succ])
        | (apply wpO_read rfl rfl; (focus (intro w' hf' hs'; (try simp only [World.size_drew, World.cell?_drew, World.size_alloc, World.size_setCell] at hs'); go_simp; (try rfl); done)); try simp only [Act.put, List.setIfInBounds_toArray, List.set_cons_zero, List.set_cons_succ])
        | (apply wpO_skip (by decide) rfl rfl; try simp only [Act.put, List.setIfInBounds_toArray, List.set_cons_zero, List.set_cons_succ]))
      have HA2 := Lib.hid (HX.out.fr0 (((Fr.refl No _).drew).alloc (Obj.cells zeroMsg.vals.toArray 26)))
      have HZ2 := Lib.hid (Blk.new (w.alloc (Obj.cells (AStep.vals ⟨sk, sn⟩).toArray 49)).drew 26 zeroMsg.vals)
      refine wpO_loud rfl fun K hK => ?_
      go_simp
      refine (lask_to B b p _ HA2.out.hub HI.out HM.out hKK hR mins hm0 hm1 HAR.out).mono ?_
      rintro e w3 ⟨u3, bs3, rfl, hH3, hF3, hN3⟩
      refine hK _ _ ?_
      clear hK K
      have hZ3 := HZ2.out.fr hF3 (fun e => HA2.out.hub.no_msg _ _ _ HZ2.out e)
      simp only [World.size_drew, World.size_alloc] at hZ3 hN3
      have HZ3 := Lib.hid hZ3
      obtain ⟨f0, f1, f2, f3, f4, f5, f6, f7⟩ := HZ3.out.cells8
      have f8 := HZ3.out.lt
      have f9 := HZ3.out.frozens
      have HF3 := Lib.hid hF3
      have HH3 := Lib.hid hH3
      have HN3 := Lib.hid hN3
      clear hF3 hH3 hN3 hZ3
      repeat (first
        | (apply wpO_pure rfl rfl; (focus (intro w'; go_simp; (try rfl); done)); try simp only [Act.put, List.setIfInBounds_toArray, List.set_cons_zero, List.set_cons_succ])
        | (apply wpO_read rfl rfl; (focus (intro w' hf' hs'; (try simp only [World.size_drew, World.cell?_drew, World.size_alloc, World.size_setCell] at hs'); go_simp; (try rfl); done)); try simp only [Act.put, List.setIfInBounds_toArray, List.set_cons_zero, List.set_cons_succ])
        | (apply wpO_skip (by decide) rfl rfl; try simp only [Act.put, List.setIfInBounds_toArray, List.set_cons_zero, List.set_cons_succ]))
      refine wpO_loud rfl fun K hK => ?_
      go_simp
      refine hK _ _ ?_
      clear hK K
      repeat (first
        | (apply wpO_pure rfl rfl; (focus (intro w'; go_simp; (try rfl); done)); try simp only [Act.put, List.setIfInBounds_toArray, List.set_cons_zero, List.set_cons_succ])
        | (apply wpO_read rfl rfl; (focus (intro w' hf' hs'; (try simp only [World.size_drew, World.cell?_drew, World.size_alloc, World.size_setCell] at hs'); go_simp; (try rfl); done)); try simp only [Act.put, List.setIfInBounds_toArray, List.set_cons_zero, List.set_cons_succ])
        | (apply wpO_skip (by decide) rfl rfl; try simp only [Act.put, List.setIfInBounds_toArray, List.set_cons_zero, List.set_cons_succ]))
      repeat (first
        | (apply wpO_pure rfl rfl; (focus (intro w'; go_simp; (try rfl); done)); try simp only [Act.put, List.setIfInBounds_toArray, List.set_cons_zero, List.set_cons_succ])
        | (apply wpO_read rfl rfl; (focus (intro w' hf' hs'; (try simp only [World.size_drew, World.cell?_drew, World.size_alloc, World.size_setCell] at hs'); go_simp; (try rfl); done)); try simp only [Act.put, List.setIfInBounds_toArray, List.set_cons_zero, List.set_cons_succ])
        | (apply wpO_skip (by decide) rfl rfl; try simp only [Act.put, List.setIfInBounds_toArray, List.set_cons_zero, List.set_cons_succ]))
      refine wpO_nil ?_
      generalize hW : World.setCell _ _ _ = W
      have hFS : Fr (fun k => k = w.heap.size + 1) w3 W := by subst hW; exact fr_set8 (S := fun k => k = w.heap.size + 1) (x := (startM (p.h.add (newR p mins)) (newR p mins))) rfl
      have hF1 : Fr b.H (w.alloc (Obj.cells (AStep.vals ⟨sk, sn⟩).toArray 49)) W := ((((Fr.refl No _).drew.alloc _).any _).trans HF3.out).step hFS fun k e => .inr (by have e : k = w.heap.size + 1 := e; rw [e, World.size_alloc]; exact Nat.le_refl _)
      have HXW := Lib.hid (HX.out.turnH (HH3.out.fr hFS fun k hk e => by have e : k = w.heap.size + 1 := e; subst e; exact HH3.out.no_msg _ _ _ HZ3.out hk) hF1 fun k hk => (HN3.out k hk).imp id fun h => by rw [World.size_alloc]; omega)
      have HMB : Hid (Blk W (w.heap.size + 1) 26 (Msg.vals (startM (p.h.add (newR p mins)) (newR p mins)))) := Lib.hid (by subst hW; exact HZ3.out.set8 (startM (p.h.add (newR p mins)) (newR p mins)))
      have HFW : Hid (Fr b.F w W) := Lib.hid ((((Fr.refl No w).alloc _).any _).trans (hF1.mono fun k _ h => .inl h))
      have HGP : Hid (¬ w.heap.size + 1 = b.p0) := Lib.hid (by have := HX.out.blk.lt; rw [World.size_alloc] at this; omega)
      clear hW hFS hF1 f0 f1 f2 f3 f4 f5 f6 f7 f8 f9 y0 y3 y4 yl HX HF3 HZ3 HZ2 HA2 HH3 HN3
      have y4 := HXW.out.blk.cell 4
      have y5 := HXW.out.blk.cell 5
      have y6 := HXW.out.blk.cell 6
      have yl := HXW.out.blk.lt
      have yz := HXW.out.blk.frozens
      simp only [List.getElem?_cons_zero, List.getElem?_cons_succ] at y4 y5 y6
      have hX4 : PlAt B (W.setCell ⟨b.p0, 4, none⟩ (.int .i64 (p.run + 1))) { b with hu := u3, hbs := bs3 } { p with h := p.h.add (newR p mins), run := p.run + 1 } := HXW.out.setOne rfl rfl rfl rfl rfl rfl
      obtain ⟨Av, cv, hve, hcv⟩ := own_shape hX4.ends
      have hve : b.ve = .slice Av p.ends.length cv := hve
      obtain ⟨As, cs, hvs, hcs⟩ := own_shape hX4.seen
      have hvs : b.vs = .slice As p.seen.length cs := hvs
      rw [show PlB.ve { b with hu := u3, hbs := bs3 } = b.ve from rfl, hve] at y5
      rw [show PlB.vs { b with hu := u3, hbs := bs3 } = b.vs from rfl, hvs] at y6
      have HX4 := Lib.hid hX4
      have HVE := Lib.hid hve
      have HVS := Lib.hid hvs
      have hX5 := hX4.fr0 ((Fr.refl No _).alloc (Obj.cells #[.int .i64 (-1)] 2))
      have HX5 := Lib.hid hX5
      have HE5 : Hid (World.ownsRow ((W.setCell ⟨b.p0, 4, none⟩ (.int .i64 (p.run + 1))).alloc (Obj.cells #[.int .i64 (-1)] 2)) B 2 1 (.slice Av p.ends.length cv) p.ends.length (encN p.ends)) := Lib.hid (by rw [← hve]; exact hX5.ends)
      have HL5 : Hid (Sl ((W.setCell ⟨b.p0, 4, none⟩ (.int .i64 (p.run + 1))).alloc (Obj.cells #[.int .i64 (-1)] 2)) 2 1 (some ⟨W.heap.size, 0, none⟩) 1 [.int .i64 (-1)]) := Lib.hid (by have h := Sl.of_new (W.setCell ⟨b.p0, 4, none⟩ (.int .i64 (p.run + 1))) 2 1 1 #[.int .i64 (-1)] [.int .i64 (-1)] rfl rfl; rw [World.size_setCell] at h; exact h)
      have HSZ := Lib.hid HXW.out.size
      have HF5 : Hid (Fr b.F w ((W.setCell ⟨b.p0, 4, none⟩ (.int .i64 (p.run + 1))).alloc (Obj.cells #[.int .i64 (-1)] 2))) := Lib.hid ((HFW.out.trans ((frP (b := b) W).mono fun k _ h => .inr (.inr (.inr h)))).alloc _)
      have HM5 := Lib.hid (((HMB.out.far (p := ⟨b.p0, 4, none⟩) HGP.out (.int .i64 (p.run + 1))).alloc (Obj.cells #[.int .i64 (-1)] 2)))
      have HLN := Lib.hid (show p.ends.length ≤ 1000000 ∧ p.seen.length ≤ 1000000 by have := HI.out.h.ends; have := HI.out.h.seenL; have := HM.out.hl; omega)
      clear hX4 hve hvs hX5 HMB
      go_wp2_with (at_builtin; apply stopHere)
      unfold StopHere
      go_loud (refine wpList_append_owned' (by rfl) (.tmp 60) (.tmp 61) 51 (by rfl) B 2 i0 _ 1 8 Try.underlying51 hi0 hz0 hz1 hz2 rfl (by omega) (.slice Av p.ends.length cv) p.ends.length (encN p.ends) (by rfl) HE5.out (some ⟨W.heap.size, 0, none⟩) 1 1 2 [.int .i64 (-1)] (by rfl) HL5.out (by simp [Value.oneCell']) (by have := HLN.out.1; simp only [maxLen]; omega) (by have := HLN.out.1; omega) (by have := HSZ.out; simp only [World.size_alloc, World.size_setCell]; omega) ?_)
      intro v6 w6 ho6 hg6 hat6
      obtain ⟨A6, c6, rfl, _⟩ := own_shape ho6
      obtain ⟨hX6, hF6⟩ := HX5.out.growEnds (x := -1) ho6 (by rw [show PlB.ve { b with hu := u3, hbs := bs3 } = b.ve from rfl, HVE.out]; exact hg6) (by rw [show PlB.ve { b with hu := u3, hbs := bs3 } = b.ve from rfl, HVE.out]; exact hat6)
      have hpe : Fr (fun k => some k = b.ve.ownBlock) ((W.setCell ⟨b.p0, 4, none⟩ (.int .i64 (p.run + 1))).alloc (Obj.cells #[.int .i64 (-1)] 2)) w6 := by rw [HVE.out]; exact Fr.of_grown hg6
      have hp6 := HX5.out.blk.fr hpe (fun e => HX5.out.ve_p0 e.symm rfl)
      have a5 := hp6.cell 5
      have a6 := hp6.cell 6
      have al := hp6.lt
      have az := hp6.frozens
      simp only [List.getElem?_cons_zero, List.getElem?_cons_succ] at a5 a6
      rw [show PlB.vs { b with hu := u3, hbs := bs3 } = b.vs from rfl, HVS.out] at a6
      rw [show PlB.ve { b with hu := u3, hbs := bs3 } = b.ve from rfl, HVE.out] at a5
      have HX6 := Lib.hid hX6
      have HAT6 := Lib.hid hat6
      have HF6 := Lib.hid (HF5.out.trans (hF6.mono fun k _ h => .inr (.inr (.inr h))))
      have hM6 := HM5.out.fr hF6 (fun e => HX5.out.no_msgP _ _ _ HM5.out e)
      have hX7 := hX6.fr0 ((Fr.refl No _).alloc (Obj.cells #[.int .i64 0] 3))
      have HX7 := Lib.hid hX7
      have HS7 : Hid (World.ownsRow ((w6.setCell ⟨b.p0, 5, none⟩ (.slice A6 (p.ends.length + 1) c6)).alloc (Obj.cells #[.int .i64 0] 3)) B 3 1 (.slice As p.seen.length cs) p.seen.length (encN p.seen)) := Lib.hid (by rw [← HVS.out]; exact hX7.seen)
      have HL7 : Hid (Sl ((w6.setCell ⟨b.p0, 5, none⟩ (.slice A6 (p.ends.length + 1) c6)).alloc (Obj.cells #[.int .i64 0] 3)) 3 1 (some ⟨w6.heap.size, 0, none⟩) 1 [.int .i64 0]) := Lib.hid (by have h := Sl.of_new (w6.setCell ⟨b.p0, 5, none⟩ (.slice A6 (p.ends.length + 1) c6)) 3 1 1 #[.int .i64 0] [.int .i64 0] rfl rfl; rw [World.size_setCell] at h; exact h)
      have HM7 := Lib.hid (hM6.alloc (Obj.cells #[.int .i64 0] 3))
      have HF7 := Lib.hid (HF6.out.alloc (Obj.cells #[.int .i64 0] 3))
      clear hX6 hF6 hpe hp6 hM6 hX7 ho6 hg6 hat6
      go_wp2_with (at_builtin; apply stopHere)
      unfold StopHere
      go_loud (refine wpList_append_owned' (by rfl) (.tmp 69) (.tmp 70) 52 (by rfl) B 3 j0 _ 1 8 Try.underlying52 hj0 jz0 jz1 jz2 rfl (by omega) (.slice As p.seen.length cs) p.seen.length (encN p.seen) (by rfl) HS7.out (some ⟨w6.heap.size, 0, none⟩) 1 1 3 [.int .i64 0] (by rfl) HL7.out (by simp [Value.oneCell']) (by have := HLN.out.2; simp only [maxLen]; omega) (by have := HLN.out.2; omega) (by have := HX7.out.size; simp only [World.size_alloc, World.size_setCell] at this ⊢; omega) ?_)
      intro v8 w8 ho8 hg8 hat8
      obtain ⟨A8, c8, rfl, _⟩ := own_shape ho8
      obtain ⟨hX8, hF8⟩ := HX7.out.growSeen (x := 0) ho8 (by rw [show PlB.vs { ({ b with hu := u3, hbs := bs3 } : PlB) with ve := .slice A6 (p.ends.length + 1) c6 } = b.vs from rfl, HVS.out]; exact hg8) (by rw [show PlB.vs { ({ b with hu := u3, hbs := bs3 } : PlB) with ve := .slice A6 (p.ends.length + 1) c6 } = b.vs from rfl, HVS.out]; exact hat8)
      have hps : Fr (fun k => some k = b.vs.ownBlock) ((w6.setCell ⟨b.p0, 5, none⟩ (.slice A6 (p.ends.length + 1) c6)).alloc (Obj.cells #[.int .i64 0] 3)) w8 := by rw [HVS.out]; exact Fr.of_grown hg8
      have hp8 := HX7.out.blk.fr hps (fun e => HX7.out.vs_p0 e.symm rfl)
      have s6 := hp8.cell 6
      have sl := hp8.lt
      have sz := hp8.frozens
      simp only [List.getElem?_cons_zero, List.getElem?_cons_succ] at s6
      have HX8 := Lib.hid hX8
      have HF8 := Lib.hid (HF7.out.step hF8 (fun k hk => by
        rcases hk with h | h | h
        · exact .inl (.inr (.inr (.inr (.inl h))))
        · have h : (Value.slice A6 (p.ends.length + 1) c6).ownBlock = some k := h
          rcases HAT6.out with e | e
          · rw [h] at e
            exact .inl (.inr (.inr (.inr (.inr (.inl (by rw [HVE.out]; exact e.symm))))))
          · rw [h] at e
            injection e with e
            have := HF5.out.size
            exact .inr (by omega)
        · exact .inl (.inr (.inr (.inr (.inr (.inr h)))))))
      have hM8 := HM7.out.fr hps (fun e => HX7.out.no_msgP _ _ _ HM7.out (.inr (.inr e.symm)))
      obtain ⟨q0, q1, q2, q3, q4, q5, q6, q7⟩ := hM8.cells8
      have q8 := hM8.lt
      have q9 := hM8.frozens
      have ngp := HGP.out
      have ngp' : ¬ b.p0 = w.heap.size + 1 := fun e => ngp e.symm
      have HX9 := Lib.hid (HX8.out.fr0 ((Fr.refl No _).alloc (Obj.cells (startM (p.h.add (newR p mins)) (newR p mins)).vals.toArray 26)))
      have HL9 : Hid (Sl ((w8.setCell ⟨b.p0, 6, none⟩ (.slice A8 (p.seen.length + 1) c8)).alloc (Obj.cells (startM (p.h.add (newR p mins)) (newR p mins)).vals.toArray 26)) 26 8 (some ⟨w8.heap.size, 0, none⟩) 1 (startM (p.h.add (newR p mins)) (newR p mins)).vals) := Lib.hid (by have h := Sl.of_new (w8.setCell ⟨b.p0, 6, none⟩ (.slice A8 (p.seen.length + 1) c8)) 26 8 1 (startM (p.h.add (newR p mins)) (newR p mins)).vals.toArray (startM (p.h.add (newR p mins)) (newR p mins)).vals rfl rfl; rw [World.size_setCell] at h; exact h)
      clear hX8 hF8 hps hp8 hM8 ho8 hg8 hat8
      go_wp2_with (go_at_call 35; apply stopHere)
      unfold StopHere
      refine (lsend_any B _ _ (some ⟨w8.heap.size, 0, none⟩) 1 [startM (p.h.add (newR p mins)) (newR p mins)] _ HX9.out HL9.out (by simp)).mono ?_
      rintro e w10 ⟨⟨v10, rfl⟩, hX10, hF10⟩
      go_wp2_with (go_at_call 35; apply stopHere)
      refine bodyPost_end (v := .tuple #[]) (by simp [results, Try.results18, go_sem]) rfl ⟨{ b with hu := u3, hbs := bs3, ve := .slice A6 (p.ends.length + 1) c6, vs := .slice A8 (p.seen.length + 1) c8 }, ⟨_, rfl⟩, rfl, ?_, (HF8.out.alloc _).trans (hF10.mono fun k _ h => .inr (.inr (.inl (.inl h))))⟩
      rw [HST.out]
      exact hX10
/-- step, whole -/
theorem lstep_any (B : Nat) (b : PlB) (p : PlayS) (w : World) (X : PlAt B w b p) (I : Inv p) {K : Int} {R : Nat} (M : NumB K R p) (hKK : K + 7 ≤ 1000000) (hR : R ≤ 1000000) (s : AStep) (ho : s.Ok) :
    Calls Try.prog 18 #[.pointer (some ⟨b.p0, 0, none⟩), s.val] w fun e w' => StepOut B w w' b (stepS p s) e := by
  by_cases h1 : s.kind = 0 ∨ s.kind = 1
  · by_cases hroom : p.h.l.length - p.h.frm < 64
    · exact lstep_ask_ok B b p w X I M (by omega) hR s ho h1 hroom
    · exact lstep_ask_full B b p w X I M (by omega) hR s ho h1 hroom
  · by_cases h2 : 2 ≤ s.kind ∧ s.kind ≤ 5
    · exact lstep_come B b p w X I M (by omega) hR s ho h2
    · by_cases h6 : s.kind = 6
      · exact lstep_lose B b p w X M s ho h6
      · by_cases h7 : s.kind = 7
        · exact lstep_twice B b p w X M s ho h7
        · exact lstep_ticks B b p w X I M hKK hR s ho (by omega)
end Go.Proofs.Ytohnchkoldbpcaa

/- agent, the law: what must come of fixed calls. -/
namespace Go.Proofs.Ytohnchkoldbpcaa
open Go Go.RowKit Go.Proofs

structure TwoE where
  hu : Value
  hbs : List Nat
  au : Value
  abs : List Nat
/-- a hub and an agent that lie apart -/
structure HAt (w : World) (hp hm aq : Nat) (b : TwoE) (h : HubS) (a : AgS) : Prop where
  hub : HubAt w hp hm b.hu b.hbs h
  ag : AgAt w aq b.au b.abs a
  sep : Sep (HubF hp hm b.hu b.hbs) (AgF aq b.au b.abs)
section
variable {w w' : World} {hp hm aq : Nat} {b : TwoE} {h h' : HubS} {a a' : AgS}
theorem HAt.fr0 (X : HAt w hp hm aq b h a) (hf : Fr No w w') : HAt w' hp hm aq b h a := ⟨X.hub.fr0 hf, X.ag.fr0 hf, X.sep⟩
theorem HAt.turnH (X : HAt w hp hm aq b h a) {u' : Value} {bs' : List Nat} (hh : HubAt w' hp hm u' bs' h') (hf : Fr (HubF hp hm b.hu b.hbs) w w') (hF : ∀ k, HubF hp hm u' bs' k → HubF hp hm b.hu b.hbs k ∨ w.heap.size ≤ k) :
    HAt w' hp hm aq { b with hu := u', hbs := bs' } h' a := ⟨hh, X.ag.fr hf X.sep.symm, X.sep.turn hF X.ag.lt⟩
theorem HAt.turnA (X : HAt w hp hm aq b h a) {u' : Value} {bs' : List Nat} (hh : AgAt w' aq u' bs' a') (hf : Fr (AgF aq b.au b.abs) w w') (hF : ∀ k, AgF aq u' bs' k → AgF aq b.au b.abs k ∨ w.heap.size ≤ k) :
    HAt w' hp hm aq { b with au := u', abs := bs' } h a' := ⟨X.hub.fr hf X.sep, hh, (X.sep.symm.turn hF X.hub.lt).symm⟩
end
abbrev kr : Req := ⟨1, 0, 10, 3, jobA, 100⟩
abbrev kh0 : HubS := ⟨0, 1, [], 0⟩
abbrev kh1 : HubS := ⟨0, 1, [kr], 0⟩
abbrev kh2 : HubS := ⟨0, 1, [{ kr with state := 2 }], 1⟩
abbrev km : Msg := ⟨0, 1, 1, 1, 1, 10, 3, jobA⟩
abbrev ka0 : AgS := ⟨1, 0, [], 1, 0⟩
abbrev ka1 : AgS := ⟨1, 0, [⟨1, false, false, 110, 3, 0⟩], 1, 1⟩
abbrev ka2 : AgS := ⟨1, 0, [⟨1, true, false, 110, 3, 110⟩], 1, 1⟩
theorem k_start : startM kh1 kr = km := by rfl
theorem k_take : ka0.take km 100 = (ka1, [sayM 1 0 2 1 0], 0) := by
  first
    | rfl
    | decide +kernel
theorem k_early : ka1.tick 109 = (ka1, []) := by rfl
theorem k_late : ka1.tick 110 = (ka2, [sayM 1 0 3 1 3]) := by rfl
theorem k_htake : kh1.take (sayM 1 0 3 1 3) = (kh2, [sayM 0 1 4 1 0], [(1, 3)], 0) := by rfl
theorem k_open : kh2.openN = 0 := by rfl
theorem k_low : kh2.low = 2 := by rfl
theorem k_sorted0 : SortedA ka0.l := List.Pairwise.nil
theorem k_sorted1 : SortedA ka1.l := List.pairwise_singleton _ _
theorem k_ask {w : World} {hp hm : Nat} {u : Value} {bs : List Nat} (H : HubAt w hp hm u bs kh0) : Calls Try.prog 6 #[.pointer (some ⟨hp, 0, none⟩), .int .i64 1, .int .i64 10, .int .i64 3, .string ⟨#[97]⟩, .int .i64 100] w fun e w' =>
    ∃ u' bs', e = .returned (msgErr km 0) ∧ HubAt w' hp hm u' bs' kh1 ∧ Fr (HubF hp hm u bs) w w' ∧ ∀ k, HubF hp hm u' bs' k → HubF hp hm u bs k ∨ w.heap.size ≤ k :=
  (ask_ok hp hm u bs kh0 w H 1 10 3 100 jobA (by decide) (by decide) (by decide) jobA_ne (by decide) (by decide) (by decide) (by decide) (by decide) (by decide) (by decide) (by decide) (by decide)).mono
    fun e w' ⟨u3, b3, he, hH3, hf3, hF3⟩ => ⟨u3, _, he, hH3, hf3, hF3⟩
theorem k_atake {w : World} {aq : Nat} {u : Value} {bs : List Nat} (H : AgAt w aq u bs ka0) : Calls Try.prog 9 #[.pointer (some ⟨aq, 0, none⟩), km.val, .int .i64 100] w fun e w' =>
    ∃ u' bs' A c, e = .returned (.tuple #[.slice A 1 c, .int .i64 0]) ∧ Sl w' 26 8 A 1 ([sayM 1 0 2 1 0].flatMap Msg.vals) ∧ AgAt w' aq u' bs' ka1 ∧ Fr (AgF aq u bs) w w' ∧ ∀ k, AgF aq u' bs' k → AgF aq u bs k ∨ w.heap.size ≤ k :=
  (agtake_any aq u bs ka0 km 100 w H k_sorted0 (by decide) (by decide)).mono fun e w' ⟨u', bs', ⟨A, c, he, hs⟩, hA, hf, hF⟩ => by
    rw [k_take] at he hs hA
    exact ⟨u', bs', A, c, he, hs, hA, hf, hF⟩
theorem k_early_ {w : World} {aq : Nat} {u : Value} {bs : List Nat} (H : AgAt w aq u bs ka1) : Calls Try.prog 11 #[.pointer (some ⟨aq, 0, none⟩), .int .i64 109] w fun e w' =>
    ∃ A c, e = .returned (.slice A 0 c) ∧ AgAt w' aq u bs ka1 ∧ Fr (AgF aq u bs) w w' :=
  (agtick_any aq u bs ka1 w H 109 (fun i x hx => by
    match i with
    | 0 => simp at hx; subst hx; decide
    | i + 1 => simp at hx)).mono fun e w' ⟨A, c, he, _, hA, hf⟩ => by
    rw [k_early] at he hA
    exact ⟨A, c, he, hA, hf⟩
theorem k_late_ {w : World} {aq : Nat} {u : Value} {bs : List Nat} (H : AgAt w aq u bs ka1) : Calls Try.prog 11 #[.pointer (some ⟨aq, 0, none⟩), .int .i64 110] w fun e w' =>
    ∃ A c, e = .returned (.slice A 1 c) ∧ Sl w' 26 8 A 1 ([sayM 1 0 3 1 3].flatMap Msg.vals) ∧ AgAt w' aq u bs ka2 ∧ Fr (AgF aq u bs) w w' :=
  (agtick_any aq u bs ka1 w H 110 (fun i x hx => by
    match i with
    | 0 => simp at hx; subst hx; decide
    | i + 1 => simp at hx)).mono fun e w' ⟨A, c, he, hs, hA, hf⟩ => by
    rw [k_late] at he hs hA
    exact ⟨A, c, he, hs, hA, hf⟩
theorem k_htake_ {w : World} {hp hm : Nat} {u : Value} {bs : List Nat} (H : HubAt w hp hm u bs kh1) : Calls Try.prog 7 #[.pointer (some ⟨hp, 0, none⟩), (sayM 1 0 3 1 3).val] w fun e w' =>
    ∃ A c D d, e = .returned (.tuple #[.slice A 1 c, .slice D 1 d, .int .i64 0]) ∧ Sl w' 26 8 A 1 ([sayM 0 1 4 1 0].flatMap Msg.vals) ∧ Sl w' 70 2 D 1 (repV [(1, 3)]) ∧ HubAt w' hp hm u bs kh2 ∧ Fr (HubF hp hm u bs) w w' :=
  (htake_any hp hm u bs kh1 (sayM 1 0 3 1 3) w H).mono fun e w' ⟨⟨A, c, D, d, he, hs, hr⟩, hH, hf⟩ => by
    rw [k_htake] at he hs hr hH
    exact ⟨A, c, D, d, he, hs, hr, hH, hf⟩
set_option maxRecDepth 100000 in
set_option maxHeartbeats 4000000 in
theorem agknown (w : World) : Calls Try.prog 16 #[] w fun e w' => e = .returned (.bool true) ∧ Fr No w w' := by
  go_enter Try.func16, Try.ntmps16
  go_wp2_with (first
    | (go_at_call 31; refine (newHub_01 _).mono ?_; rintro e w1 ⟨hp, hm, rfl, hH, hq1, hq2, hf1⟩)
    | (go_at_call 32
       refine (newAgent_10 _).mono ?_
       rintro e w2 ⟨aq, rfl, hA, hq3, hf2⟩
       have HXA : Hid (HAt w2 hp hm aq ⟨.slice none 0 0, [], .slice none 0 0, []⟩ kh0 ka0) := Lib.hid ⟨hH.fr0 hf2, hA, fun k h1 h2 => by
         have := hH.lt k h1
         rcases h2 with h | h | h
         · omega
         · simp at h
         · cases h⟩
       have HFA := Lib.hid (hf1.trans hf2)
       have HLH : Hid (∀ k, HubF hp hm (.slice none 0 0) [] k → w.heap.size ≤ k) := Lib.hid (by
         rintro k (h | h | h | h)
         · omega
         · omega
         · simp at h
         · cases h)
       have HLA : Hid (∀ k, AgF aq (.slice none 0 0) [] k → w.heap.size ≤ k) := Lib.hid (by
         rintro k (h | h | h)
         · have := hf1.size; omega
         · simp at h
         · cases h)
       clear hH hA hf1 hf2)
    | (go_at_call 6; apply stopHere))
  unfold StopHere
  refine (k_ask HXA.out.hub).mono ?_
  rintro e w3 ⟨u3, bs3, rfl, hH3, hf3, hF3⟩
  have HX3 := Lib.hid (HXA.out.turnH (h' := kh1) hH3 hf3 hF3)
  have HF3 := Lib.hid (HFA.out.step hf3 fun k hk => .inr (HLH.out k hk))
  have HLH3 : Hid (∀ k, HubF hp hm u3 bs3 k → w.heap.size ≤ k) := Lib.hid fun k hk => (hF3 k hk).elim (HLH.out k) fun h => Nat.le_trans HFA.out.size h
  have HMB4 := Lib.hid (Blk.new w3 26 km.vals)
  have HX4 := Lib.hid (HX3.out.fr0 ((Fr.refl No w3).alloc (Obj.cells km.vals.toArray 26)))
  have HF4 := Lib.hid (HF3.out.alloc (Obj.cells km.vals.toArray 26))
  clear hH3 hf3 hF3
  go_wp2_with (go_at_call 9; apply stopHere)
  unfold StopHere
  refine (k_atake HX4.out.ag).mono ?_
  rintro e w5 ⟨u5, bs5, A5, c5, rfl, hS5, hA5, hf5, hF5⟩
  have HX5 := Lib.hid (HX4.out.turnA (a' := ka1) hA5 hf5 hF5)
  have HMB5 := Lib.hid (HMB4.out.fr hf5 (fun e => HX4.out.ag.no_msg _ _ _ HMB4.out e))
  have HF5 := Lib.hid (HF4.out.step hf5 fun k hk => .inr (HLA.out k hk))
  have HLA5 : Hid (∀ k, AgF aq u5 bs5 k → w.heap.size ≤ k) := Lib.hid fun k hk => (hF5 k hk).elim (HLA.out k) fun h => Nat.le_trans HF4.out.size h
  have HS5 := Lib.hid hS5
  clear hS5 hA5 hf5 hF5
  go_wp2_with (go_at_call 11; apply stopHere)
  unfold StopHere
  refine (k_early_ HX5.out.ag).mono ?_
  rintro e w6 ⟨A6, c6, rfl, hA6, hf6⟩
  have HX6 := Lib.hid (HX5.out.turnA (a' := ka1) hA6 hf6 fun k h => .inl h)
  have HMB6 := Lib.hid (HMB5.out.fr hf6 (fun e => HX5.out.ag.no_msg _ _ _ HMB5.out e))
  have HF6 := Lib.hid (HF5.out.step hf6 fun k hk => .inr (HLA5.out k hk))
  have HS6 := Lib.hid (HS5.out.fr hf6 HX5.out.ag.no_msg)
  clear hA6 hf6
  go_wp2_with (go_at_call 11; apply stopHere)
  unfold StopHere
  refine (k_late_ HX6.out.ag).mono ?_
  rintro e w7 ⟨A7, c7, rfl, hS7, hA7, hf7⟩
  have HX7 := Lib.hid (HX6.out.turnA (a' := ka2) hA7 hf7 fun k h => .inl h)
  have HMB7 := Lib.hid (HMB6.out.fr hf7 (fun e => HX6.out.ag.no_msg _ _ _ HMB6.out e))
  have HF7 := Lib.hid (HF6.out.step hf7 fun k hk => .inr (HLA5.out k hk))
  have HL7 := Lib.hid (HS6.out.fr hf7 HX6.out.ag.no_msg)
  have HS7 := Lib.hid hS7
  obtain ⟨g7, o7, rfl, hg7, ⟨m0, m1, m2, m3, m4, m5, m6, m7⟩⟩ := msg_cells (k := 0) (x := sayM 1 0 3 1 3) hS7 rfl
  simp only [Nat.zero_mul, Nat.add_zero] at m0 m1 m2 m3 m4 m5 m6 m7
  clear hS7 hA7 hf7
  go_wp2_with (go_at_call 7; apply stopHere)
  unfold StopHere
  refine (k_htake_ HX7.out.hub).mono ?_
  rintro e w8 ⟨A8, c8, D8, d8, rfl, hS8, hR8, hH8, hf8⟩
  have HX8 := Lib.hid (HX7.out.turnH (h' := kh2) hH8 hf8 fun k h => .inl h)
  have hM8 := HMB7.out.fr hf8 (fun e => HX7.out.hub.no_msg _ _ _ HMB7.out e)
  have HMB8 := Lib.hid hM8
  have HF8 := Lib.hid (HF7.out.step hf8 fun k hk => .inr (HLH3.out k hk))
  have hL8 := HL7.out.fr hf8 HX7.out.hub.no_msg
  have hT8 := HS7.out.fr hf8 HX7.out.hub.no_msg
  obtain ⟨ga, oa, rfl, hga, ⟨a0, a1, a2, a3, a4, a5, a6, a7⟩⟩ := msg_cells (k := 0) (x := sayM 1 0 2 1 0) hL8 rfl
  obtain ⟨gb, ob, hAb, hgb, ⟨b0, b1, b2, b3, b4, b5, b6, b7⟩⟩ := msg_cells (k := 0) (x := sayM 1 0 3 1 3) hT8 rfl
  injection hAb with hAb
  injection hAb with hAb1 hAb2
  subst hAb1 hAb2
  obtain ⟨gc, oc, rfl, hgc, ⟨p0, p1, p2, p3, p4, p5, p6, p7⟩⟩ := msg_cells (k := 0) (x := sayM 0 1 4 1 0) hS8 rfl
  obtain ⟨gd, od, rfl, hgd, hrc, _⟩ := hR8.cells (by omega)
  have r0 := hrc 0 (.int .i64 1) rfl
  have r1 := hrc 1 (.int .i64 3) rfl
  have q2 := hM8.cell 2
  have ql := hM8.lt
  simp only [Nat.zero_mul, Nat.add_zero, List.getElem?_cons_zero, List.getElem?_cons_succ] at a2 b2 p2 r0 q2
  clear hS8 hR8 hH8 hf8 hM8 hL8 hT8 hrc a0 a1 a3 a4 a5 a6 a7 b0 b1 b3 b4 b5 b6 b7 p0 p1 p3 p4 p5 p6 p7 m0 m1 m2 m3 m4 m5 m6 m7
  go_wp2_with (go_at_call 12; apply stopHere)
  unfold StopHere
  refine (openN_any hp hm u3 bs3 kh2 _ HX8.out.hub).mono ?_
  rintro e w9 ⟨he, hf9⟩
  rw [k_open] at he
  obtain rfl := he
  have HX9 := Lib.hid (HX8.out.fr0 hf9)
  have HMB9 := Lib.hid (HMB8.out.fr hf9 (fun h => h))
  have HF9 := Lib.hid (HF8.out.trans hf9)
  clear hf9 q2 ql a2 b2 p2 r0 r1
  go_wp2_with (go_at_call 13; apply stopHere)
  unfold StopHere
  refine (low_any hp hm u3 bs3 kh2 _ HX9.out.hub (by decide) (by decide)).mono ?_
  rintro e w10 ⟨he, hf10⟩
  rw [k_low] at he
  obtain rfl := he
  have hM10 := HMB9.out.fr hf10 (fun h => h)
  have q2 := hM10.cell 2
  have ql := hM10.lt
  simp only [List.getElem?_cons_zero, List.getElem?_cons_succ] at q2
  have HF10 := Lib.hid (HF9.out.trans hf10)
  clear hf10 hM10
  go_wp2
  go_ret
  exact ⟨rfl, HF10.out⟩
end Go.Proofs.Ytohnchkoldbpcaa

/- agent, AgentOnce: the walk. -/
namespace Go.Proofs.Ytohnchkoldbpcaa
open Go Go.RowKit Go.Proofs

theorem steps_at {w : World} {t : TypeId} {A : Option Addr} {n : Nat} {l : List AStep} (h : Sl w t 2 A n (l.flatMap AStep.vals)) {k : Nat} {x : AStep} (hx : l[k]? = some x) :
    ∃ b o, A = some ⟨b, o, none⟩ ∧ b < w.heap.size ∧ w.cell? ⟨b, o + k * 2, none⟩ = some (.int .i64 x.kind) ∧ w.cell? ⟨b, o + k * 2 + 1, none⟩ = some (.int .i64 x.n) := by
  have vl : ∀ l : List AStep, (l.flatMap AStep.vals).length = l.length * 2 := fun l => by
    induction l with
    | nil => rfl
    | cons a l ih => simp only [List.flatMap_cons, List.length_append, ih, List.length_cons, List.length_nil]; omega
  have va : ∀ (l : List AStep) (k : Nat), l[k]? = some x → ∀ j, j < 2 → (l.flatMap AStep.vals)[k * 2 + j]? = x.vals[j]? := fun l => by
    induction l with
    | nil => intro k hk; cases hk
    | cons a l ih =>
      intro k hk j hj
      rw [List.flatMap_cons]
      cases k with
      | zero =>
        simp only [List.getElem?_cons_zero, Option.some.injEq] at hk
        subst hk
        rw [List.getElem?_append_left (by simp; omega)]
        simp
      | succ k =>
        rw [List.getElem?_append_right (by simp; omega)]
        simp only [List.length_cons, List.length_nil]
        rw [show (k + 1) * 2 + j - (0 + 1 + 1) = k * 2 + j by omega]
        exact ih k (by simpa using hk) j hj
  have hk := (List.getElem?_eq_some_iff.1 hx).1
  have hn : 0 < n := by have := h.1; rw [vl] at this; omega
  obtain ⟨b, o, rfl, hb, hc, _⟩ := h.cells hn
  refine ⟨b, o, rfl, hb, ?_, ?_⟩
  · have := hc (k * 2 + 0) (.int .i64 x.kind) (by rw [va l k hx 0 (by omega)]; rfl)
    simpa using this
  · have := hc (k * 2 + 1) (.int .i64 x.n) (by rw [va l k hx 1 (by omega)]; rfl)
    rw [Nat.add_assoc]
    exact this
def OnRel (w : World) (p0 : Nat) (N : Nat) (g : Nat) (v4 : Value) (wr : World) : Prop :=
  ∃ (i : Nat) (b : PlB) (p : PlayS), i + g = N ∧ i ≤ 200 ∧ v4 = .int .i64 i ∧ b.p0 = p0 ∧ PlAt w.heap.size wr b p ∧ Inv p ∧ NumB (100 + 7 * i) i p ∧ Fr No w wr
def InRel (B : Nat) (b : PlB) (p : PlayS) (w : World) (g : Nat) (v5 : Value) (wr : World) : Prop :=
  ∃ k : Nat, k + g = p.seen.length ∧ v5 = .int .i64 k ∧ PlAt B wr b p ∧ Fr No w wr
set_option maxRecDepth 100000 in
set_option maxHeartbeats 4000000 in
theorem agentOnce_walk (A : Option Addr) (c : Nat) (t : TypeId) (ss : List AStep) (w : World) (hs : Sl w t 2 A ss.length (ss.flatMap AStep.vals)) (ho : ∀ s ∈ ss, s.Ok) (hl : ss.length ≤ maxLen) :
    Calls Try.prog 5 #[.slice A ss.length c] w fun e w' => e = .returned (.bool true) ∧ Fr No w w' := by
  have HS := Lib.hid hs
  have HO := Lib.hid ho
  have hl0 : (0 : Int) ≤ (ss.length : Int) := by omega
  have hl1 : (ss.length : Int) ≤ 9223372036854775807 := by simp only [maxLen] at hl; omega
  clear hs ho hl
  go_enter Try.func5, Try.ntmps5
  go_wp2_with (go_at_call 17; apply stopHere)
  unfold StopHere
  refine (begin_any _).mono ?_
  rintro e w1 ⟨b0, rfl, hX1, hf1⟩
  obtain ⟨p0, hp0⟩ : ∃ p0, p0 = b0.p0 := ⟨_, rfl⟩
  rw [← hp0]
  have HP0 := Lib.hid hp0
  have HX1 := Lib.hid hX1
  have HF1 := Lib.hid hf1
  clear hX1 hf1 hp0
  go_wp2
  go_loopg [4] ss.length (fun g v4 wr => OnRel w p0 ss.length g v4 wr)
  case atStart => exact ⟨0, b0, beginS, by omega, by omega, rfl, HP0.out.symm, HX1.out.fr0 (by (repeat (first | exact Fr.refl _ _ | assumption | refine Fr.drew ?_ | refine Fr.drewL ?_ | refine Fr.alloc ?_ _))), inv_begin, numB_begin.mono (by omega) (Nat.le_refl _), HF1.out.trans (by (repeat (first | exact Fr.refl _ _ | assumption | refine Fr.drew ?_ | refine Fr.drewL ?_ | refine Fr.alloc ?_ _)))⟩
  case round =>
    obtain ⟨i, b, p, hgi, hi200, rfl, hb, hX, hI, hM, hF⟩ := hrel
    have HB := Lib.hid hb
    have HX := Lib.hid hX
    have HI := Lib.hid hI
    have HM := Lib.hid hM
    have HF := Lib.hid hF
    have hi0 : (0 : Int) ≤ (i : Int) := by omega
    clear hb hX hI hM hF
    by_cases hgo : i < ss.length ∧ i < 200
    · obtain ⟨hi, hi2⟩ := hgo
      have hi1 : (i : Int) < (ss.length : Int) := by omega
      have hi3 : (i : Int) < 200 := by omega
      obtain ⟨s, hss⟩ : ∃ s, ss[i]? = some s := ⟨_, List.getElem?_eq_getElem hi⟩
      obtain ⟨g1, o1, rfl, hg1, m0, m1⟩ := steps_at (HS.out.fr0 HF.out) hss
      have HSO := Lib.hid (HO.out s (List.mem_of_getElem? hss))
      clear hss
      go_wp2_with (go_at_call 18; apply stopHere)
      unfold StopHere
      have hst := lstep_any _ b p _ HX.out HI.out HM.out (by omega) (by omega) s HSO.out
      rw [HB.out] at hst
      refine hst.mono ?_
      clear hst
      rintro e w3 ⟨b3, ⟨v3, rfl⟩, hb3, hX3, hF3⟩
      have HX3 := Lib.hid hX3
      have HI3 := Lib.hid (inv_step HI.out s)
      have HM3 : Hid (NumB (100 + 7 * ((i + 1 : Nat) : Int)) (i + 1) (stepS p s)) := Lib.hid ((HM.out.step s).mono (by omega) (Nat.le_refl _))
      have HF3 := Lib.hid (HF.out.step hF3 fun k hk => .inr (HX.out.low k hk))
      have HB3 := Lib.hid (hb3.trans HB.out)
      obtain ⟨p3, hp3⟩ : ∃ p3, p3 = stepS p s := ⟨_, rfl⟩
      rw [← hp3] at HX3 HI3 HM3
      have HA3 := Lib.hid (inv_asks HI3.out)
      have y1 := HX3.out.blk.cell 1
      have y4 := HX3.out.blk.cell 4
      have y6 := HX3.out.blk.cell 6
      have y7 := HX3.out.blk.cell 7
      have yl := HX3.out.blk.lt
      simp only [List.getElem?_cons_zero, List.getElem?_cons_succ] at y1 y4 y6 y7
      rw [HA3.out.1] at y7
      rw [hb3, HB.out] at y1 y4 y6 y7 yl
      have hlen : decide ((64 : Int) < (p3.a.l.length : Int)) = false := by have := HA3.out.2.1; simp only [decide_eq_false_iff_not]; omega
      have hlen2 : ¬ 64 < p3.a.l.length := by have := HA3.out.2.1; omega
      have hbg : decide (p3.run < (p3.a.begun : Int)) = false := by have := HA3.out.2.2.1; simp only [decide_eq_false_iff_not]; omega
      clear hX3 hF3 hp3 m0 m1 hg1
      go_wp2
      refine wp_region_o [(0, 0), (1, 0), (2, 0), (3, 1), (4, 0), (5, 0), (6, 0), (7, 0), (8, 1), (9, 2), (10, 1), (11, 0), (12, 0), (13, 0), (14, 0), (15, 0), (16, 0), (19, 0), (20, 0), (21, 0), (17, 1), (22, 1), (18, 2), (23, 0), (24, 0)] (by kernel_rfl) (by kernel_rfl) ?_
      repeat (first
        | (apply wpO_pure rfl rfl; (focus (intro w'; go_simp; (try rfl); done)); try simp only [Act.put, List.setIfInBounds_toArray, List.set_cons_zero, List.set_cons_succ])
        | (apply wpO_read rfl rfl; (focus (intro w' hf' hs'; (try simp only [World.size_drew, World.cell?_drew, World.size_alloc, World.size_setCell] at hs'); go_simp; (try rfl); done)); try simp only [Act.put, List.setIfInBounds_toArray, List.set_cons_zero, List.set_cons_succ])
        | (apply wpO_skip (by decide) rfl rfl; try simp only [Act.put, List.setIfInBounds_toArray, List.set_cons_zero, List.set_cons_succ]))
      refine wpO_loudE rfl fun K hK => ?_
      go_simp
      refine (aglist_any b3.aq b3.au b3.abs p3.a _ (HX3.out.fr0 (by (repeat (first | exact Fr.refl _ _ | assumption | refine Fr.drew ?_ | refine Fr.drewL ?_ | refine Fr.alloc ?_ _)))).ag (by have := HA3.out.2.1; omega)).mono ?_
      rintro e w5 ⟨v5, rfl, hO5, hf5⟩
      refine hK _ _ ⟨hf5, ?_⟩
      clear hK K
      obtain ⟨A5, c5, rfl, _⟩ := own_shape hO5
      have HX5 := Lib.hid ((HX3.out.fr0 ((Fr.refl No w3).drew)).fr0 hf5)
      have HF5 := Lib.hid (HF3.out.drew.trans hf5)
      clear y1 y4 y6 y7 yl hf5 hO5
      have y1 := HX5.out.blk.cell 1
      have y4 := HX5.out.blk.cell 4
      have yl := HX5.out.blk.lt
      simp only [List.getElem?_cons_zero, List.getElem?_cons_succ] at y1 y4
      rw [hb3, HB.out] at y1 y4 yl
      repeat (first
        | (apply wpO_pure rfl rfl; (focus (intro w'; go_simp; (try rfl); done)); try simp only [Act.put, List.setIfInBounds_toArray, List.set_cons_zero, List.set_cons_succ])
        | (apply wpO_read rfl rfl; (focus (intro w' hf' hs'; (try simp only [World.size_drew, World.cell?_drew, World.size_alloc, World.size_setCell] at hs'); go_simp; (try rfl); done)); try simp only [Act.put, List.setIfInBounds_toArray, List.set_cons_zero, List.set_cons_succ])
        | (apply wpO_skip (by decide) rfl rfl; try simp only [Act.put, List.setIfInBounds_toArray, List.set_cons_zero, List.set_cons_succ]))
      refine wpO_loudE rfl fun K hK => ?_
      go_simp
      refine (begun_any b3.aq b3.au b3.abs p3.a _ HX5.out.ag).mono ?_
      rintro e w6 ⟨rfl, hf6⟩
      refine hK _ _ ⟨hf6, ?_⟩
      clear hK K
      have HX6 := Lib.hid (HX5.out.fr0 hf6)
      have HF6 := Lib.hid (HF5.out.trans hf6)
      clear hf6 y1 y4 yl
      repeat (first
        | (apply wpO_pure rfl rfl; (focus (intro w'; go_simp; (try rfl); done)); try simp only [Act.put, List.setIfInBounds_toArray, List.set_cons_zero, List.set_cons_succ])
        | (apply wpO_read rfl rfl; (focus (intro w' hf' hs'; (try simp only [World.size_drew, World.cell?_drew, World.size_alloc, World.size_setCell] at hs'); go_simp; (try rfl); done)); try simp only [Act.put, List.setIfInBounds_toArray, List.set_cons_zero, List.set_cons_succ])
        | (apply wpO_skip (by decide) rfl rfl; try simp only [Act.put, List.setIfInBounds_toArray, List.set_cons_zero, List.set_cons_succ]))
      refine wpO_nil ?_
      have HB3' := Lib.hid hb3
      clear hb3
      go_wp2
      go_loopg [5] p3.seen.length (fun g v5 wr => InRel w.heap.size b3 p3 w6 g v5 wr)
      case atStart => exact ⟨0, by omega, rfl, HX6.out.fr0 (by (repeat (first | exact Fr.refl _ _ | assumption | refine Fr.drew ?_ | refine Fr.drewL ?_ | refine Fr.alloc ?_ _))), by (repeat (first | exact Fr.refl _ _ | assumption | refine Fr.drew ?_ | refine Fr.drewL ?_ | refine Fr.alloc ?_ _))⟩
      case round =>
        obtain ⟨k, hgk, rfl, hX7, hF7⟩ := hrel
        have hk0 : (0 : Int) ≤ (k : Int) := by omega
        obtain ⟨As, cs, hvs, _⟩ := own_shape hX7.seen
        have y6 := hX7.blk.cell 6
        have yl := hX7.blk.lt
        simp only [List.getElem?_cons_zero, List.getElem?_cons_succ] at y6
        rw [hvs] at y6
        rw [HB3'.out, HB.out] at y6 yl
        have hsl : (p3.seen.length : Int) ≤ 9223372036854775807 := by rw [HI3.out.h.seenL]; have := HM3.out.hl; omega
        have hsl0 : (0 : Int) ≤ (p3.seen.length : Int) := by omega
        by_cases hk : k < p3.seen.length
        · have hk1 : (k : Int) < (p3.seen.length : Int) := by omega
          obtain ⟨x, hx⟩ : ∃ x, p3.seen[k]? = some x := ⟨_, List.getElem?_eq_getElem hk⟩
          obtain ⟨gs, curs, hAs, hBs, hcs⟩ := row_cell (A := As) (c := cs) (n := p3.seen.length) (by have h1 := hX7.seen; rw [hvs] at h1; exact h1) hx rfl
          subst hAs
          have s1 := hBs.cell k
          have s2 := hBs.lt
          rw [hcs] at s1
          have hx1 : decide ((1 : Int) < x) = false := by have := HA3.out.2.2.2 k x hx; simp only [decide_eq_false_iff_not]; omega
          have HX7 := Lib.hid hX7
          have HF7 := Lib.hid hF7
          clear hX7 hF7 hvs hBs hcs hx
          go_wp2
          go_roundg (p3.seen.length - (k + 1))
          case measure => omega
          case rel => exact ⟨k + 1, by omega, by go_num, HX7.out.fr0 (by (repeat (first | exact Fr.refl _ _ | assumption | refine Fr.drew ?_ | refine Fr.drewL ?_ | refine Fr.alloc ?_ _))), HF7.out.trans (by (repeat (first | exact Fr.refl _ _ | assumption | refine Fr.drew ?_ | refine Fr.drewL ?_ | refine Fr.alloc ?_ _)))⟩
        · obtain rfl : k = p3.seen.length := by omega
          have HX7 := Lib.hid hX7
          have HF7 := Lib.hid hF7
          have hnn : ¬ ((p3.seen.length : Int) < (p3.seen.length : Int)) := by omega
          clear hX7 hF7 hvs hgk hk
          go_wp2
          go_roundg (ss.length - (i + 1))
          case measure => omega
          case rel => exact ⟨i + 1, b3, p3, by omega, by omega, by go_num, HB3.out, HX7.out.fr0 (by (repeat (first | exact Fr.refl _ _ | assumption | refine Fr.drew ?_ | refine Fr.drewL ?_ | refine Fr.alloc ?_ _))), HI3.out, HM3.out, (HF6.out.trans HF7.out).trans (by (repeat (first | exact Fr.refl _ _ | assumption | refine Fr.drew ?_ | refine Fr.drewL ?_ | refine Fr.alloc ?_ _)))⟩
    · have HGO := Lib.hid hgo
      have hcond : decide ((i : Int) < (ss.length : Int)) = false ∨ (decide ((i : Int) < (ss.length : Int)) = true ∧ decide ((i : Int) < 200) = false) := by
        by_cases h1 : i < ss.length
        · refine .inr ⟨by simp only [decide_eq_true_eq]; omega, by simp only [decide_eq_false_iff_not]; omega⟩
        · refine .inl (by simp only [decide_eq_false_iff_not]; omega)
      clear hgo
      rcases hcond with h1 | ⟨h1, h2⟩
      · have h1' : ¬ i < ss.length := by simp only [decide_eq_false_iff_not] at h1; omega
        clear hgi
        go_wp2_with (go_at_call 16; apply stopHere)
        unfold StopHere
        refine (agknown _).mono ?_
        rintro e w9 ⟨rfl, hf9⟩
        have HF9 := Lib.hid (HF.out.trans hf9)
        clear hf9
        go_wp2
        go_ret
        exact ⟨rfl, HF9.out⟩
      · have h1' : i < ss.length := by simp only [decide_eq_true_eq] at h1; omega
        have h2' : ¬ i < 200 := by simp only [decide_eq_false_iff_not] at h2; omega
        clear hgi
        go_wp2_with (go_at_call 16; apply stopHere)
        unfold StopHere
        refine (agknown _).mono ?_
        rintro e w9 ⟨rfl, hf9⟩
        have HF9 := Lib.hid (HF.out.trans hf9)
        clear hf9
        go_wp2
        go_ret
        exact ⟨rfl, HF9.out⟩
end Go.Proofs.Ytohnchkoldbpcaa

/- agent, AgentCalm, the plain law: what more holds all the time. -/
namespace Go.Proofs.Ytohnchkoldbpcaa
open Go Go.RowKit

def BegunAt (p : PlayS) (i : Nat) : Prop := ∃ e, p.ends[i]? = some e ∧ 0 ≤ e
def OverAt (p : PlayS) (i : Nat) : Prop := ∃ r, p.h.l[i]? = some r ∧ r.state = 2
def Ad (m : Msg) : Prop := rightB m = true ∧ (((m.kind = 1 ∨ m.kind = 4) ∧ m.frm = 0 ∧ m.to_ = 1) ∨ ((m.kind = 2 ∨ m.kind = 3) ∧ m.frm = 1 ∧ m.to_ = 0))
structure CInv (p : PlayS) : Prop where
  st : ∀ (i : Nat) r, p.h.l[i]? = some r → r.state = 0 ∨ r.state = 1 ∨ r.state = 2
  bef : ∀ (i : Nat) r, p.h.l[i]? = some r → i < p.h.frm → r.state = 2
  beg : ∀ (i : Nat) r, p.h.l[i]? = some r → r.state ≠ 0 → BegunAt p i
  m2 : ∀ m ∈ p.n, m.kind = 2 → BegunAt p (m.n - 1).toNat
  m4 : ∀ m ∈ p.n, m.kind = 4 → OverAt p (m.n - 1).toNat
  kn : ∀ x ∈ p.a.l, x.known = true → OverAt p (x.run - 1).toNat
  ad : ∀ m ∈ p.n, Ad m
  fin : ∀ x ∈ p.a.l, x.fin ≤ p.clock + 11
  job : ∀ r ∈ p.h.l, r.job.size ≤ 20
/-- runs only go on -/
def UpS (p p' : PlayS) : Prop := ∀ (i : Nat) r, p.h.l[i]? = some r → ∃ r', p'.h.l[i]? = some r' ∧ (r.state ≠ 0 → r'.state ≠ 0) ∧ (r.state = 2 → r'.state = 2)
def UpE (p p' : PlayS) : Prop := ∀ i, BegunAt p i → BegunAt p' i
theorem UpS.refl {p p' : PlayS} (h : p'.h = p.h) : UpS p p' := fun i r hr => ⟨r, by rw [h]; exact hr, id, id⟩
theorem UpS.trans {p q r : PlayS} (h : UpS p q) (k : UpS q r) : UpS p r := fun i x hx => by
  obtain ⟨y, hy, a, b⟩ := h i x hx
  obtain ⟨z, hz, c, d⟩ := k i y hy
  exact ⟨z, hz, fun h => c (a h), fun h => d (b h)⟩
theorem UpE.refl {p p' : PlayS} (h : p'.ends = p.ends) : UpE p p' := fun i hi => by unfold BegunAt; rw [h]; exact hi
theorem OverAt.up {p p' : PlayS} {i : Nat} (h : OverAt p i) (u : UpS p p') : OverAt p' i := by
  obtain ⟨r, hr, hs⟩ := h
  obtain ⟨r', hr', _, h2⟩ := u i r hr
  exact ⟨r', hr', h2 hs⟩
theorem sendL_mem' {x m : Msg} {n : List Msg} (h : x ∈ sendL m n) : (x = m ∧ rightB m = true) ∨ x ∈ n := by
  unfold sendL at h
  split at h
  · rename_i hr
    split at h
    · exact .inr h
    · rcases List.mem_append.1 h with h | h
      · exact .inr h
      · simp only [List.mem_singleton] at h
        exact .inl ⟨h, hr⟩
  · exact .inr h
theorem sendsL_mem' {x : Msg} : ∀ {ms n : List Msg}, x ∈ sendsL ms n → (x ∈ ms ∧ rightB x = true) ∨ x ∈ n
  | [], _, h => .inr h
  | m :: ms, n, h => by
    have h' : x ∈ sendsL ms (sendL m n) := h
    rcases sendsL_mem' h' with ⟨h, hr⟩ | h
    · exact .inl ⟨List.mem_cons_of_mem _ h, hr⟩
    · rcases sendL_mem' h with ⟨rfl, hr⟩ | h
      · exact .inl ⟨List.mem_cons_self, hr⟩
      · exact .inr h
/-! ### what an agent's Take can be -/
structure TNil (p : PlayS) (m : Msg) (t : AgS × List Msg × Int) : Prop where
  out : t.2.1 = []
  beg : t.1.begun = p.a.begun
  sub : ∀ x ∈ t.1.l, x ∈ p.a.l
  same : m.kind ≠ 1 → t.1 = p.a
  dead : m.kind = 1 → heardB p.a.me p.a.other [1, 4] m = true → isClockB p.clock = true → ∀ r, p.h.l[(m.n - 1).toNat]? = some r → r.state = 2
inductive TCase (p : PlayS) (m : Msg) (t : AgS × List Msg × Int) : Prop
  | nil (h : TNil p m t)
  | done (b : AgS) (x : WorkS) (hk : m.kind = 1) (hs : ∀ z ∈ b.l, z ∈ p.a.l) (hx : b.l[posA m.n b.l]? = some x) (hr : x.run = m.n) (ho : x.over = true) (hb : b.begun = p.a.begun)
      (e : t = ({ b with l := b.l.set (posA m.n b.l) { x with over := true, sent := p.clock } }, [sayM 1 0 3 x.run x.code], 0))
  | under (b : AgS) (x : WorkS) (hk : m.kind = 1) (hs : ∀ z ∈ b.l, z ∈ p.a.l) (hx : x ∈ b.l) (hr : x.run = m.n) (hb : b.begun = p.a.begun) (e : t = (b, [sayM 1 0 2 m.n 0], 0))
  | new (b : AgS) (hk : m.kind = 1) (hs : ∀ z ∈ b.l, z ∈ p.a.l) (hm : 0 ≤ m.mins ∧ m.mins ≤ 11) (hb : b.begun = p.a.begun)
      (e : t = ({ b with l := insA b.l (posA m.n b.l) ⟨m.n, false, false, p.clock + m.mins, m.code, 0⟩, begun := b.begun + 1 }, [sayM 1 0 2 m.n 0], 0))
  | known (x : WorkS) (hk : m.kind = 4) (hx : p.a.l[posA m.n p.a.l]? = some x) (hr : x.run = m.n) (e : t = ({ p.a with l := p.a.l.set (posA m.n p.a.l) { x with known := x.over } }, [], 0))
theorem atake_cases {p : PlayS} (h : Inv p) (hC : ∀ (i : Nat) r, p.h.l[i]? = some r → i < p.h.frm → r.state = 2) (hR : p.h.l.length ≤ 1000000) {m : Msg} (hm : MsgOk p m) : TCase p m (p.a.take m p.clock) := by
  obtain ⟨hm1, hm2, hm3⟩ := hm
  unfold AgS.take
  by_cases hh : heardB p.a.me p.a.other [1, 4] m = true
  · rw [if_pos hh]
    have hk := heard_mem hh
    simp only [List.mem_cons, List.not_mem_nil, or_false] at hk
    by_cases hc : isClockB p.clock = true
    · rw [if_pos hc]
      by_cases hk1 : m.kind = 1
      · rw [if_pos hk1]
        have hst : m.kind = 1 ∧ m.code = m.n % 3 ∧ 0 ≤ m.mins ∧ m.mins ≤ 11 ∧ 1 ≤ m.low ∧ m.low ≤ (p.h.frm : Int) + 1 ∧ m.n ≤ m.low + 63 := by
          rcases hm3 with h3 | h3 | h3 | h3
          · exact h3
          · omega
          · omega
          · omega
        obtain ⟨_, s2, s3, s4, s5, s6, s7⟩ := hst
        have hg : (isRunB m.n && decide (m.mins ≤ 10080)) = true := by
          unfold isRunB
          simp only [Bool.and_eq_true, decide_eq_true_eq]
          omega
        unfold AgS.start
        rw [if_pos hg]
        obtain ⟨hb, hlow⟩ := forget_inv h ⟨s5, s6⟩
        have hfb : (p.a.forget m.low).begun = p.a.begun := by unfold AgS.forget; split <;> rfl
        have hfs : ∀ z ∈ (p.a.forget m.low).l, z ∈ p.a.l := by
          unfold AgS.forget
          split
          · exact fun z hz => List.mem_of_mem_drop hz
          · exact fun z hz => hz
        have hme := h.a.me
        rw [hme.1, hme.2]
        generalize p.a.forget m.low = b at hb hlow hfb hfs ⊢
        have hbl := hb.low
        simp only at hbl
        simp only
        by_cases hlt : m.n < b.low
        · rw [if_pos hlt]
          exact .nil ⟨rfl, hfb, hfs, fun h => absurd hk1 h, fun _ _ _ r hr => hC _ r hr (by omega)⟩
        · rw [if_neg hlt]
          cases hat : atA m.n b.l with
          | some x =>
            obtain ⟨hx, hxr⟩ := atA_some hat
            simp only
            by_cases ho : x.over = true
            · rw [if_pos ho]
              exact .done b x hk1 hfs hx hxr ho hfb rfl
            · rw [if_neg ho]
              exact .under b x hk1 hfs (List.mem_of_getElem? hx) hxr hfb rfl
          | none =>
            simp only
            by_cases hfull : 64 ≤ b.l.length
            · exfalso
              have hno := atA_none hb.sorted hat
              have hso : SortedA (insA b.l (posA m.n b.l) ⟨m.n, false, false, 0, 0, 0⟩) := insA_sorted hb.sorted (x := ⟨m.n, false, false, 0, 0, 0⟩) hno
              have := hso.len (lo := b.low) (hi := b.low + 63) (fun x hx => by
                rcases insA_mem hx with rfl | hx
                · simp only; omega
                · obtain ⟨a1, a2, _⟩ := hb.work x hx
                  exact ⟨a1, a2⟩) (by omega)
              have e : (insA b.l (posA m.n b.l) ⟨m.n, false, false, 0, 0, 0⟩).length = b.l.length + 1 := by
                have := posA_le m.n b.l
                simp [insA]
                omega
              omega
            · rw [if_neg hfull]
              exact .new b hk1 hfs ⟨s3, s4⟩ hfb rfl
      · rw [if_neg hk1]
        have hk4 : m.kind = 4 := by omega
        cases hat : atA m.n p.a.l with
        | none => exact .nil ⟨rfl, rfl, fun _ h => h, fun _ => rfl, fun h => absurd h hk1⟩
        | some x =>
          obtain ⟨hx, hxr⟩ := atA_some hat
          exact .known x hk4 hx hxr rfl
    · rw [if_neg hc]
      exact .nil ⟨rfl, rfl, fun _ h => h, fun _ => rfl, fun _ _ h => absurd h hc⟩
  · rw [if_neg hh]
    exact .nil ⟨rfl, rfl, fun _ h => h, fun _ => rfl, fun _ h => absurd h hh⟩
end Go.Proofs.Ytohnchkoldbpcaa

/- agent, AgentCalm, the plain law: what more holds is kept by a message that comes. -/
namespace Go.Proofs.Ytohnchkoldbpcaa
open Go Go.RowKit

theorem comeA_parts (p : PlayS) (m : Msg) (n : List Msg) : (comeA p m n).h = p.h ∧ (comeA p m n).clock = p.clock ∧ (comeA p m n).n = sendsL (p.a.take m p.clock).2.1 n ∧ (comeA p m n).a = (p.a.take m p.clock).1 := by
  unfold comeA
  simp only
  split <;> exact ⟨rfl, rfl, rfl, rfl⟩
theorem comeA_ends (p : PlayS) (m : Msg) (n : List Msg) : (comeA p m n).ends = if p.a.begun < (p.a.take m p.clock).1.begun ∧ 1 ≤ m.n ∧ m.n ≤ p.ends.length then p.ends.set (m.n - 1).toNat (p.clock + m.mins) else p.ends := by
  unfold comeA
  simp only
  split <;> rfl
theorem comeA_upE {p : PlayS} (hc : 0 ≤ p.clock) (m : Msg) (n : List Msg) : UpE p (comeA p m n) := by
  rintro i ⟨e, he, h0⟩
  unfold BegunAt
  rw [comeA_ends]
  split
  · rename_i hg
    have := take_begun hg.1
    by_cases hi : (m.n - 1).toNat = i
    · subst hi
      refine ⟨p.clock + m.mins, List.getElem?_set_self (List.getElem?_eq_some_iff.1 he).1, by omega⟩
    · exact ⟨e, by rw [List.getElem?_set_ne hi]; exact he, h0⟩
  · exact ⟨e, he, h0⟩
theorem cinv_comeA {p : PlayS} (h : Inv p) (c : CInv p) (hR : p.h.l.length ≤ 1000000) {m : Msg} {n : List Msg} (hm : MsgOk p m) (hm4 : m.kind = 4 → OverAt p (m.n - 1).toNat) (hn : ∀ x ∈ n, x ∈ p.n) : CInv (comeA p m n) := by
  obtain ⟨e1, e2, e3, e4⟩ := comeA_parts p m n
  have uE := comeA_upE (p := p) h.clock m n
  have uS : UpS p (comeA p m n) := UpS.refl e1
  have hcase := atake_cases h c.bef hR hm
  have hbeg : ∀ (b : AgS), p.a.take m p.clock = p.a.take m p.clock → b.begun = p.a.begun + 1 → (p.a.take m p.clock).1.begun = b.begun → 0 ≤ m.mins → BegunAt (comeA p m n) (m.n - 1).toNat := fun b _ hb hb2 hm0 => by
    have hl := h.h.ends
    have h1 := hm.1
    have h2 := hm.2.1
    have hc := h.clock
    unfold BegunAt
    rw [comeA_ends, if_pos (by rw [hb2, hb]; exact ⟨by omega, hm.1, by omega⟩)]
    exact ⟨p.clock + m.mins, List.getElem?_set_self (by omega), by omega⟩
  refine ⟨by rw [e1]; exact c.st, by rw [e1]; exact c.bef, fun i r hr hs => uE i (c.beg i r (by rw [← e1]; exact hr) hs), ?_, ?_, ?_, ?_, ?_, by rw [e1]; exact c.job⟩
  · intro x hx hk
    rw [e3] at hx
    rcases sendsL_mem' hx with ⟨hx, _⟩ | hx
    · cases hcase with
      | nil t => rw [t.out] at hx; cases hx
      | done b y _ _ _ _ _ _ e => rw [e] at hx; simp only [List.mem_singleton] at hx; subst hx; exact absurd hk (by show ¬ (3 : Int) = 2; decide)
      | under b y _ hs hy hr _ e =>
        rw [e] at hx
        simp only [List.mem_singleton] at hx
        subst hx
        obtain ⟨_, _, _, _, _, w6, w7, _⟩ := h.a.work y (hs y hy)
        rw [hr] at w6
        exact uE _ ⟨_, w6, w7⟩
      | new b _ hs hmm hb e =>
        rw [e] at hx
        simp only [List.mem_singleton] at hx
        subst hx
        exact hbeg { b with begun := b.begun + 1 } rfl (by simp only; omega) (by rw [e]) hmm.1
      | known y _ _ _ e => rw [e] at hx; cases hx
    · exact uE _ (c.m2 x (hn x hx) hk)
  · intro x hx hk
    rw [e3] at hx
    rcases sendsL_mem' hx with ⟨hx, _⟩ | hx
    · exfalso
      cases hcase with
      | nil t => rw [t.out] at hx; cases hx
      | done b y _ _ _ _ _ _ e => rw [e] at hx; simp only [List.mem_singleton] at hx; subst hx; exact absurd hk (by show ¬ (3 : Int) = 4; decide)
      | under b y _ _ _ _ _ e => rw [e] at hx; simp only [List.mem_singleton] at hx; subst hx; exact absurd hk (by show ¬ (2 : Int) = 4; decide)
      | new b _ _ _ _ e => rw [e] at hx; simp only [List.mem_singleton] at hx; subst hx; exact absurd hk (by show ¬ (2 : Int) = 4; decide)
      | known y _ _ _ e => rw [e] at hx; cases hx
    · exact (c.m4 x (hn x hx) hk).up uS
  · intro x hx hk
    rw [e4] at hx
    cases hcase with
    | nil t => exact (c.kn x (t.sub x hx) hk).up uS
    | done b y _ hs hy _ _ _ e =>
      rw [e] at hx
      rcases set_mem hy hx with rfl | hx
      · exact (c.kn y (hs y (List.mem_of_getElem? hy)) hk).up uS
      · exact (c.kn x (hs x hx) hk).up uS
    | under b y _ hs _ _ _ e => rw [e] at hx; exact (c.kn x (hs x hx) hk).up uS
    | new b _ hs _ _ e =>
      rw [e] at hx
      rcases insA_mem hx with rfl | hx
      · cases hk
      · exact (c.kn x (hs x hx) hk).up uS
    | known y hk4 hy hr e =>
      rw [e] at hx
      rcases set_mem hy hx with rfl | hx
      · show OverAt _ (y.run - 1).toNat
        rw [hr]
        exact (hm4 hk4).up uS
      · exact (c.kn x hx hk).up uS
  · intro x hx
    rw [e3] at hx
    rcases sendsL_mem' hx with ⟨hx, hr⟩ | hx
    · refine ⟨hr, ?_⟩
      cases hcase with
      | nil t => rw [t.out] at hx; cases hx
      | done b y _ _ _ _ _ _ e => rw [e] at hx; simp only [List.mem_singleton] at hx; subst hx; exact .inr ⟨.inr rfl, rfl, rfl⟩
      | under b y _ _ _ _ _ e => rw [e] at hx; simp only [List.mem_singleton] at hx; subst hx; exact .inr ⟨.inl rfl, rfl, rfl⟩
      | new b _ _ _ _ e => rw [e] at hx; simp only [List.mem_singleton] at hx; subst hx; exact .inr ⟨.inl rfl, rfl, rfl⟩
      | known y _ _ _ e => rw [e] at hx; cases hx
    · exact c.ad x (hn x hx)
  · intro x hx
    rw [e4] at hx
    rw [e2]
    cases hcase with
    | nil t => exact c.fin x (t.sub x hx)
    | done b y _ hs hy _ _ _ e =>
      rw [e] at hx
      rcases set_mem hy hx with rfl | hx
      · exact c.fin y (hs y (List.mem_of_getElem? hy))
      · exact c.fin x (hs x hx)
    | under b y _ hs _ _ _ e => rw [e] at hx; exact c.fin x (hs x hx)
    | new b _ hs hmm _ e =>
      rw [e] at hx
      rcases insA_mem hx with rfl | hx
      · simp only; omega
      · exact c.fin x (hs x hx)
    | known y hk4 hy hr e =>
      rw [e] at hx
      rcases set_mem hy hx with rfl | hx
      · exact c.fin y (List.mem_of_getElem? hy)
      · exact c.fin x hx
/-! ### the hub -/
theorem repsS_ends : ∀ (rs : List (Int × Int)) (p : PlayS), (repsS rs p).ends = p.ends
  | [], _ => rfl
  | r :: rs, p => by
    rw [repsS, repsS_ends rs]
    unfold repS
    split <;> rfl
theorem comeH_parts (p : PlayS) (m : Msg) (n : List Msg) : (comeH p m n).h = (p.h.take m).1 ∧ (comeH p m n).a = p.a ∧ (comeH p m n).clock = p.clock ∧ (comeH p m n).ends = p.ends ∧ (comeH p m n).n = sendsL (p.h.take m).2.1 n := by
  have e := repsS_same (p.h.take m).2.2.1 { p with h := (p.h.take m).1 }
  exact ⟨e.1, e.2.1, e.2.2.1, repsS_ends _ _, rfl⟩
inductive HCase (p : PlayS) (m : Msg) : Prop
  | nil (hh : heardB p.h.me p.h.other [2, 3] m = false) (e : p.h.take m = (p.h, [], [], 1))
  | under (r : Req) (hk : m.kind = 2) (hr : p.h.l[(m.n - 1).toNat]? = some r) (e1 : (p.h.take m).1 = { p.h with l := p.h.l.set (m.n - 1).toNat { r with state := max r.state 1 } }) (e2 : (p.h.take m).2.1 = [])
  | done (r : Req) (hk : m.kind = 3) (hr : p.h.l[(m.n - 1).toNat]? = some r) (e1 : (p.h.take m).1 = { p.h with l := p.h.l.set (m.n - 1).toNat { r with state := 2 }, frm := advR (p.h.l.set (m.n - 1).toNat { r with state := 2 }) p.h.frm }) (e2 : (p.h.take m).2.1 = [sayM 0 1 4 m.n 0])
theorem runs_nodup {p : PlayS} (h : InvH p) : (p.h.l.map fun r => r.run).Nodup := by
  unfold List.Nodup
  rw [List.pairwise_iff_getElem]
  intro i j hi hj hij e
  rw [List.length_map] at hi hj
  rw [List.getElem_map, List.getElem_map] at e
  have h1 := (h.req i _ (List.getElem?_eq_getElem hi)).1
  have h2 := (h.req j _ (List.getElem?_eq_getElem hj)).1
  omega
theorem htake_cases {p : PlayS} (h : InvH p) {m : Msg} (hm1 : 1 ≤ m.n) (hm2 : m.n ≤ (p.h.l.length : Int)) : HCase p m := by
  by_cases hh : heardB p.h.me p.h.other [2, 3] m = true
  · have hk := heard_mem hh
    simp only [List.mem_cons, List.not_mem_nil, or_false] at hk
    obtain ⟨r, hr⟩ : ∃ r, p.h.l[(m.n - 1).toNat]? = some r := ⟨_, List.getElem?_eq_getElem (by omega)⟩
    have hidx : (((m.n - 1).toNat : Nat) : Int) + 1 = m.n := by omega
    have hf : findR m.n p.h.l = some r := by have := findR_pos h hr; rwa [hidx] at this
    have hrun : r.run = m.n := by have := (h.req _ r hr).1; omega
    have hset : ∀ st, setR m.n st p.h.l = p.h.l.set (m.n - 1).toNat { r with state := st } := fun st => by
      rw [← hrun, setR_set (runs_nodup h) hr, hrun]
    rcases hk with hk | hk
    · refine .under r hk hr ?_ ?_
      · unfold HubS.take; rw [if_pos hh, hf]; simp only; rw [if_pos hk, hset]
      · unfold HubS.take; rw [if_pos hh, hf]; simp only; rw [if_pos hk]
    · refine .done r hk hr ?_ ?_
      · unfold HubS.take; rw [if_pos hh, hf]; simp only; rw [if_neg (by omega), hset]
      · unfold HubS.take; rw [if_pos hh, hf]; simp only; rw [if_neg (by omega), h.me.1, h.me.2]
  · exact .nil (by simpa using hh) (by unfold HubS.take; rw [if_neg hh])
theorem upS_set {p p' : PlayS} {j : Nat} {r : Req} {st : Int} (hr : p.h.l[j]? = some r) (hl : p'.h.l = p.h.l.set j { r with state := st }) (h0 : r.state ≠ 0 → st ≠ 0) (h2 : r.state = 2 → st = 2) : UpS p p' := by
  intro i x hx
  rw [hl]
  by_cases hi : j = i
  · subst hi
    rw [hr] at hx
    injection hx with hx
    subst hx
    exact ⟨_, List.getElem?_set_self (List.getElem?_eq_some_iff.1 hr).1, h0, h2⟩
  · exact ⟨x, by rw [List.getElem?_set_ne hi]; exact hx, id, id⟩
theorem advR_bef {l : List Req} {k i : Nat} {r : Req} (hi : k ≤ i) (hlt : i < advR l k) (hr : l[i]? = some r) : r.state = 2 := by
  unfold advR at hlt
  have h1 : (l.drop k)[i - k]? = some r := by rw [List.getElem?_drop, show k + (i - k) = i by omega]; exact hr
  have h2 : i - k < ((l.drop k).takeWhile fun r => r.state == 2).length := by omega
  have h3 : ((l.drop k).takeWhile fun r => r.state == 2)[i - k]? = some r := by
    have hp := List.takeWhile_prefix (fun r : Req => r.state == 2) (l := l.drop k)
    obtain ⟨s, hs⟩ := hp
    rw [← hs, List.getElem?_append_left h2] at h1
    exact h1
  have := mem_tw (List.mem_of_getElem? h3)
  simpa using this
theorem cinv_comeH {p : PlayS} (h : Inv p) (c : CInv p) {m : Msg} {n : List Msg} (hm : MsgOk p m) (hm2 : m.kind = 2 → BegunAt p (m.n - 1).toNat) (hn : ∀ x ∈ n, x ∈ p.n) : CInv (comeH p m n) ∧ UpS p (comeH p m n) := by
  obtain ⟨e1, e2, e3, e4, e5⟩ := comeH_parts p m n
  have uE : UpE p (comeH p m n) := UpE.refl e4
  have hcase := htake_cases h.h hm.1 hm.2.1
  have uS : UpS p (comeH p m n) := by
    cases hcase with
    | nil _ e => exact UpS.refl (by rw [e1, e])
    | under r hk hr f1 f2 => exact upS_set hr (by rw [e1, f1]) (fun h => by omega) (fun h => by omega)
    | done r hk hr f1 f2 => exact upS_set hr (by rw [e1, f1]) (fun h => by omega) (fun h => rfl)
  refine ⟨⟨?_, ?_, ?_, ?_, ?_, ?_, ?_, ?_, ?_⟩, uS⟩
  · intro i x hx
    rw [e1] at hx
    cases hcase with
    | nil _ e => rw [e] at hx; exact c.st i x hx
    | under r hk hr f1 f2 =>
      rw [f1] at hx
      rcases (List.mem_or_eq_of_mem_set (List.mem_of_getElem? hx)).symm with rfl | hx'
      · have := c.st _ r hr; simp only; omega
      · obtain ⟨i', hi'⟩ := List.getElem?_of_mem hx'
        exact c.st i' x hi'
    | done r hk hr f1 f2 =>
      rw [f1] at hx
      rcases (List.mem_or_eq_of_mem_set (List.mem_of_getElem? hx)).symm with rfl | hx'
      · exact .inr (.inr rfl)
      · obtain ⟨i', hi'⟩ := List.getElem?_of_mem hx'
        exact c.st i' x hi'
  · intro i x hx hlt
    have hold : i < p.h.frm → x.state = 2 := fun hf => by
      have hil : i < p.h.l.length := by have := h.h.frm; omega
      obtain ⟨x', hx', _, h2⟩ := uS i _ (List.getElem?_eq_getElem hil)
      rw [hx] at hx'
      injection hx' with hx'
      subst hx'
      exact h2 (c.bef i _ (List.getElem?_eq_getElem hil) hf)
    rw [e1] at hx hlt
    cases hcase with
    | nil _ e => rw [e] at hlt; exact hold hlt
    | under r hk hr f1 f2 => rw [f1] at hlt; exact hold hlt
    | done r hk hr f1 f2 =>
      rw [f1] at hx hlt
      by_cases hf : i < p.h.frm
      · exact hold hf
      · exact advR_bef (by omega) hlt hx
  · intro i x hx hs
    rw [e1] at hx
    refine uE i ?_
    cases hcase with
    | nil _ e => rw [e] at hx; exact c.beg i x hx hs
    | under r hk hr f1 f2 =>
      rw [f1] at hx
      by_cases hi : (m.n - 1).toNat = i
      · subst hi; exact hm2 hk
      · rw [List.getElem?_set_ne hi] at hx; exact c.beg i x hx hs
    | done r hk hr f1 f2 =>
      rw [f1] at hx
      by_cases hi : (m.n - 1).toNat = i
      · subst hi
        rcases hm.2.2 with h3 | h3 | ⟨_, _, e, he, he0, _⟩ | h3
        · omega
        · omega
        · exact ⟨e, he, he0⟩
        · omega
      · rw [List.getElem?_set_ne hi] at hx; exact c.beg i x hx hs
  · intro x hx hk
    rw [e5] at hx
    refine uE _ ?_
    rcases sendsL_mem' hx with ⟨hx, _⟩ | hx
    · exfalso
      cases hcase with
      | nil _ e => rw [e] at hx; cases hx
      | under r _ hr f1 f2 => rw [f2] at hx; cases hx
      | done r _ hr f1 f2 => rw [f2] at hx; simp only [List.mem_singleton] at hx; subst hx; exact absurd hk (by show ¬ (4 : Int) = 2; decide)
    · exact c.m2 x (hn x hx) hk
  · intro x hx hk
    rw [e5] at hx
    rcases sendsL_mem' hx with ⟨hx, _⟩ | hx
    · cases hcase with
      | nil _ e => rw [e] at hx; cases hx
      | under r _ hr f1 f2 => rw [f2] at hx; cases hx
      | done r _ hr f1 f2 =>
        rw [f2] at hx
        simp only [List.mem_singleton] at hx
        subst hx
        refine ⟨{ r with state := 2 }, ?_, rfl⟩
        rw [e1, f1]
        exact List.getElem?_set_self (List.getElem?_eq_some_iff.1 hr).1
    · exact (c.m4 x (hn x hx) hk).up uS
  · intro x hx hk
    rw [e2] at hx
    exact (c.kn x hx hk).up uS
  · intro x hx
    rw [e5] at hx
    rcases sendsL_mem' hx with ⟨hx, hr⟩ | hx
    · refine ⟨hr, ?_⟩
      cases hcase with
      | nil _ e => rw [e] at hx; cases hx
      | under r _ hr f1 f2 => rw [f2] at hx; cases hx
      | done r _ hr f1 f2 => rw [f2] at hx; simp only [List.mem_singleton] at hx; subst hx; exact .inl ⟨.inr rfl, rfl, rfl⟩
    · exact c.ad x (hn x hx)
  · intro x hx
    rw [e2] at hx
    rw [e3]
    exact c.fin x hx
  · intro x hx
    rw [e1] at hx
    cases hcase with
    | nil _ e => rw [e] at hx; exact c.job x hx
    | under r _ hr f1 f2 =>
      rw [f1] at hx
      rcases (List.mem_or_eq_of_mem_set hx).symm with rfl | hx
      · exact c.job r (List.mem_of_getElem? hr)
      · exact c.job x hx
    | done r _ hr f1 f2 =>
      rw [f1] at hx
      rcases (List.mem_or_eq_of_mem_set hx).symm with rfl | hx
      · exact c.job r (List.mem_of_getElem? hr)
      · exact c.job x hx
end Go.Proofs.Ytohnchkoldbpcaa

/- agent, AgentCalm, the plain law: what more holds is kept by each step. -/
namespace Go.Proofs.Ytohnchkoldbpcaa
open Go Go.RowKit

theorem cinv_net {p : PlayS} (c : CInv p) {n : List Msg} (hn : ∀ x ∈ n, x ∈ p.n) : CInv { p with n := n } :=
  ⟨c.st, c.bef, c.beg, fun x hx hk => c.m2 x (hn x hx) hk, fun x hx hk => c.m4 x (hn x hx) hk, c.kn, fun x hx => c.ad x (hn x hx), c.fin, c.job⟩
theorem twiceL_mem {n : List Msg} {i : Int} {x : Msg} (hx : x ∈ twiceL n i) : x ∈ n := by
  unfold twiceL at hx
  split at hx
  · split at hx
    · exact hx
    · split at hx
      · rename_i y hy
        rcases List.mem_append.1 hx with hx | hx
        · exact hx
        · simp only [List.mem_singleton] at hx
          subst hx
          exact List.mem_of_getElem? hy
      · exact hx
  · exact hx
theorem cinv_ask {p : PlayS} (h : Inv p) (c : CInv p) (mins : Int) : CInv (askS p mins) := by
  unfold askS
  split
  · have hl := h.h.ends
    have uE : ∀ i, BegunAt p i → BegunAt { p with h := p.h.add (newR p mins), run := p.run + 1, ends := p.ends ++ [-1], seen := p.seen ++ [0], n := sendsL [startM (p.h.add (newR p mins)) (newR p mins)] p.n } i := by
      rintro i ⟨e, he, h0⟩
      have := (List.getElem?_eq_some_iff.1 he).1
      exact ⟨e, by show (p.ends ++ [-1])[i]? = _; rw [List.getElem?_append_left this]; exact he, h0⟩
    have old : ∀ (i : Nat) r, (p.h.l ++ [newR p mins])[i]? = some r → p.h.l[i]? = some r ∨ (i = p.h.l.length ∧ r = newR p mins) := fun i r hr => by
      by_cases hi : i < p.h.l.length
      · rw [List.getElem?_append_left hi] at hr; exact .inl hr
      · have h1 := (List.getElem?_eq_some_iff.1 hr).1
        rw [List.length_append, List.length_singleton] at h1
        have : i = p.h.l.length := by omega
        subst this
        rw [List.getElem?_append_right (Nat.le_refl _), Nat.sub_self] at hr
        simp only [List.getElem?_cons_zero, Option.some.injEq] at hr
        exact .inr ⟨rfl, hr.symm⟩
    have uS : UpS p { p with h := p.h.add (newR p mins), run := p.run + 1, ends := p.ends ++ [-1], seen := p.seen ++ [0], n := sendsL [startM (p.h.add (newR p mins)) (newR p mins)] p.n } := fun i r hr => by
      have := (List.getElem?_eq_some_iff.1 hr).1
      exact ⟨r, by show (p.h.l ++ [newR p mins])[i]? = _; rw [List.getElem?_append_left this]; exact hr, id, id⟩
    refine ⟨fun i r hr => ?_, fun i r hr hf => ?_, fun i r hr hs => ?_, fun x hx hk => ?_, fun x hx hk => ?_, fun x hx hk => (c.kn x hx hk).up uS, fun x hx => ?_, c.fin, fun r hr => ?_⟩
    · rcases old i r hr with hr | ⟨_, rfl⟩
      · exact c.st i r hr
      · exact .inl rfl
    · rcases old i r hr with hr | ⟨rfl, _⟩
      · exact c.bef i r hr hf
      · exfalso
        have := h.h.frm
        have hf : p.h.l.length < p.h.frm := hf
        omega
    · rcases old i r hr with hr | ⟨_, rfl⟩
      · exact uE i (c.beg i r hr hs)
      · exact absurd rfl hs
    · rcases sendsL_mem' hx with ⟨hx, _⟩ | hx
      · simp only [List.mem_singleton] at hx
        subst hx
        exact absurd hk (by show ¬ (1 : Int) = 2; decide)
      · exact uE _ (c.m2 x hx hk)
    · rcases sendsL_mem' hx with ⟨hx, _⟩ | hx
      · simp only [List.mem_singleton] at hx
        subst hx
        exact absurd hk (by show ¬ (1 : Int) = 4; decide)
      · exact (c.m4 x hx hk).up uS
    · rcases sendsL_mem' hx with ⟨hx, hr⟩ | hx
      · simp only [List.mem_singleton] at hx
        subst hx
        exact ⟨hr, .inl ⟨.inl rfl, h.h.me.1, h.h.me.2⟩⟩
      · exact c.ad x hx
    · rcases List.mem_append.1 hr with hr | hr
      · exact c.job r hr
      · simp only [List.mem_singleton] at hr
        subst hr
        exact (by decide : jobA.size ≤ 20)
  · exact c
theorem tickA_known {a : AgS} {c : Int} {x : WorkS} (h : x ∈ (a.tick c).1.l) : ∃ y ∈ a.l, x.run = y.run ∧ x.known = y.known ∧ x.fin = y.fin := by
  unfold AgS.tick at h
  split at h
  · obtain ⟨y, hy, rfl⟩ := List.mem_map.1 h
    refine ⟨y, hy, ?_⟩
    split <;> exact ⟨rfl, rfl, rfl⟩
  · exact ⟨x, h, rfl, rfl, rfl⟩
theorem tickH_kind {h : HubS} {c : Int} {m : Msg} (hm : m ∈ (h.tick c).2) : m.kind = 1 ∧ m.frm = h.me ∧ m.to_ = h.other := by
  unfold HubS.tick at hm
  split at hm
  · obtain ⟨r, _, rfl⟩ := List.mem_map.1 hm
    exact ⟨rfl, rfl, rfl⟩
  · cases hm
theorem tickA_kind {a : AgS} {c : Int} {m : Msg} (hm : m ∈ (a.tick c).2) : m.kind = 3 ∧ m.frm = a.me ∧ m.to_ = a.other := by
  unfold AgS.tick at hm
  split at hm
  · obtain ⟨x, _, rfl⟩ := List.mem_map.1 hm
    exact ⟨rfl, rfl, rfl⟩
  · cases hm
theorem tick_same {p : PlayS} {i : Nat} {r : Req} (hr : p.h.l[i]? = some r) : ∃ r', (tickS p).h.l[i]? = some r' ∧ r'.state = r.state := by
  have hl := (tickH_len p.h (p.clock + 1)).1
  have hlt : i < (p.h.tick (p.clock + 1)).1.l.length := by have := (List.getElem?_eq_some_iff.1 hr).1; omega
  obtain ⟨r0, h0, _, _, _, h4⟩ := tickR_get (p := p) (List.getElem?_eq_getElem hlt)
  rw [hr] at h0
  injection h0 with h0
  subst h0
  exact ⟨_, List.getElem?_eq_getElem hlt, h4⟩
theorem upS_tick (p : PlayS) : UpS p (tickS p) := fun i r hr => by
  obtain ⟨r', h1, h2⟩ := tick_same hr
  exact ⟨r', h1, fun h => by rw [h2]; exact h, fun h => by rw [h2]; exact h⟩
theorem cinv_tick {p : PlayS} (h : Inv p) (c : CInv p) : CInv (tickS p) := by
  have uS := upS_tick p
  have uE : UpE p (tickS p) := UpE.refl rfl
  have hfr : (tickS p).h.frm = p.h.frm := (tickH_len p.h (p.clock + 1)).2.1
  have back : ∀ (i : Nat) r, (tickS p).h.l[i]? = some r → ∃ r0, p.h.l[i]? = some r0 ∧ r.state = r0.state := fun i r hr => by
    obtain ⟨r0, h0, _, _, _, h4⟩ := tickR_get (p := p) hr
    exact ⟨r0, h0, h4⟩
  have msgs : ∀ x ∈ (tickS p).n, (rightB x = true ∧ ((x.kind = 1 ∧ x.frm = 0 ∧ x.to_ = 1) ∨ (x.kind = 3 ∧ x.frm = 1 ∧ x.to_ = 0))) ∨ x ∈ p.n := fun x hx => by
    have hx : x ∈ sendsL (p.a.tick (p.clock + 1)).2 (sendsL (p.h.tick (p.clock + 1)).2 p.n) := hx
    rcases sendsL_mem' hx with ⟨hx, hr⟩ | hx
    · obtain ⟨a1, a2, a3⟩ := tickA_kind hx
      exact .inl ⟨hr, .inr ⟨a1, by rw [a2, h.a.me.1], by rw [a3, h.a.me.2]⟩⟩
    · rcases sendsL_mem' hx with ⟨hx, hr⟩ | hx
      · obtain ⟨a1, a2, a3⟩ := tickH_kind hx
        exact .inl ⟨hr, .inl ⟨a1, by rw [a2, h.h.me.1], by rw [a3, h.h.me.2]⟩⟩
      · exact .inr hx
  refine ⟨fun i r hr => ?_, fun i r hr hf => ?_, fun i r hr hs => ?_, fun x hx hk => ?_, fun x hx hk => ?_, fun x hx hk => ?_, fun x hx => ?_, fun x hx => ?_, fun r hr => ?_⟩
  · obtain ⟨r0, h0, e⟩ := back i r hr
    rw [e]; exact c.st i r0 h0
  · obtain ⟨r0, h0, e⟩ := back i r hr
    rw [e]; exact c.bef i r0 h0 (by rw [← hfr]; exact hf)
  · obtain ⟨r0, h0, e⟩ := back i r hr
    rw [e] at hs
    exact uE i (c.beg i r0 h0 hs)
  · rcases msgs x hx with ⟨_, ⟨h1, _⟩ | ⟨h1, _⟩⟩ | hx
    · omega
    · omega
    · exact uE _ (c.m2 x hx hk)
  · rcases msgs x hx with ⟨_, ⟨h1, _⟩ | ⟨h1, _⟩⟩ | hx
    · omega
    · omega
    · exact (c.m4 x hx hk).up uS
  · obtain ⟨y, hy, e1, e2, _⟩ := tickA_known hx
    rw [e1]
    exact (c.kn y hy (by rw [← e2]; exact hk)).up uS
  · rcases msgs x hx with ⟨hr, ⟨h1, h2⟩ | ⟨h1, h2⟩⟩ | hx
    · exact ⟨hr, .inl ⟨.inl h1, h2⟩⟩
    · exact ⟨hr, .inr ⟨.inr h1, h2⟩⟩
    · exact c.ad x hx
  · obtain ⟨y, hy, _, _, e3⟩ := tickA_known hx
    have := c.fin y hy
    show x.fin ≤ p.clock + 1 + 11
    omega
  · have hr : r ∈ (p.h.tick (p.clock + 1)).1.l := hr
    unfold HubS.tick at hr
    split at hr
    · rcases List.mem_append.1 hr with hr | hr
      · exact c.job r (List.mem_of_mem_take hr)
      · obtain ⟨y, hy, rfl⟩ := List.mem_map.1 hr
        have := c.job y (List.mem_of_mem_drop hy)
        split <;> exact this
    · exact c.job r hr
theorem cinv_ticks : ∀ (k : Nat) {p : PlayS}, Inv p → CInv p → CInv (ticksS k p)
  | 0, _, _, c => c
  | k + 1, _, h, c => cinv_ticks k (inv_tick h) (cinv_tick h c)
theorem cinv_come {p : PlayS} (h : Inv p) (c : CInv p) (hR : p.h.l.length ≤ 1000000) (i : Nat) : CInv (comeS p i) := by
  unfold comeS
  cases hm : p.n[i]? with
  | none => exact c
  | some m =>
    have hmem := List.mem_of_getElem? hm
    have h1 := h.msg m hmem
    simp only
    split
    · exact cinv_comeA h c hR h1 (fun hk => c.m4 m hmem hk) (fun x hx => eraseIdx_mem hx)
    · exact (cinv_comeH h c h1 (fun hk => c.m2 m hmem hk) (fun x hx => eraseIdx_mem hx)).1
theorem cinv_step {p : PlayS} (h : Inv p) (c : CInv p) (hR : p.h.l.length ≤ 1000000) (s : AStep) : CInv (stepS p s) := by
  unfold stepS
  split
  · exact cinv_ask h c _
  · split
    · split
      · exact cinv_come h c hR _
      · exact c
    · split
      · split
        · exact cinv_net c fun x hx => eraseIdx_mem hx
        · exact c
      · split
        · split
          · exact cinv_net c fun x hx => twiceL_mem hx
          · exact c
        · exact cinv_ticks _ h c
theorem cinv_begin : CInv beginS :=
  ⟨fun i r h => by simp [beginS] at h, fun i r h => by simp [beginS] at h, fun i r h => by simp [beginS] at h, fun m h => by simp [beginS] at h, fun m h => by simp [beginS] at h, fun x h => by simp [beginS] at h, fun m h => by simp [beginS] at h, fun x h => by simp [beginS] at h, fun r h => by simp [beginS] at h⟩
end Go.Proofs.Ytohnchkoldbpcaa

/- agent, AgentCalm, the plain law: all messages come. -/
namespace Go.Proofs.Ytohnchkoldbpcaa
open Go Go.RowKit

structure GoodP (K : Int) (R : Nat) (p : PlayS) : Prop where
  i : Inv p
  c : CInv p
  b : NumB K R p
theorem sendL_sub {x m : Msg} {n : List Msg} (h : x ∈ n) : x ∈ sendL m n := by
  unfold sendL
  split
  · split
    · exact h
    · exact List.mem_append_left _ h
  · exact h
theorem sendsL_sub {x : Msg} : ∀ (ms : List Msg) {n : List Msg}, x ∈ n → x ∈ sendsL ms n
  | [], _, h => h
  | _ :: ms, _, h => sendsL_sub ms (sendL_sub h)
theorem sendL_in {m : Msg} {n : List Msg} (hr : rightB m = true) (hl : n.length < 64) : m ∈ sendL m n := by
  unfold sendL
  rw [if_pos hr, if_neg (by omega)]
  simp
theorem sendL_grow (m : Msg) (n : List Msg) : (sendL m n).length ≤ n.length + 1 := by
  unfold sendL
  split
  · split
    · omega
    · simp
  · omega
theorem sendsL_in {x : Msg} : ∀ {ms n : List Msg}, x ∈ ms → rightB x = true → n.length + ms.length ≤ 64 → x ∈ sendsL ms n
  | [], _, h, _, _ => by cases h
  | m :: ms, n, h, hr, hl => by
    simp only [List.length_cons] at hl
    show x ∈ sendsL ms (sendL m n)
    rcases List.mem_cons.1 h with rfl | h
    · exact sendsL_sub ms (sendL_in hr (by omega))
    · exact sendsL_in h hr (by have := sendL_grow m n; omega)
/-! ### weights -/
def wM (m : Msg) : Nat := if m.kind = 1 then 3 else if m.kind = 3 then 2 else 1
def wN (n : List Msg) : Nat := (n.map wM).sum
theorem wM_le (m : Msg) : wM m ≤ 3 := by unfold wM; split; omega; split <;> omega
theorem wM_pos (m : Msg) : 1 ≤ wM m := by unfold wM; split; omega; split <;> omega
theorem wN_le : ∀ (n : List Msg), wN n ≤ 3 * n.length
  | [] => by simp [wN]
  | m :: n => by
    have h1 := wN_le n
    have h2 := wM_le m
    simp only [wN, List.map_cons, List.sum_cons, List.length_cons] at h1 ⊢
    omega
theorem wN_sendL (m : Msg) (n : List Msg) : wN (sendL m n) ≤ wN n + wM m := by
  unfold sendL
  split
  · split
    · omega
    · simp [wN]
  · omega
theorem wN_sendsL : ∀ (ms n : List Msg), wN (sendsL ms n) ≤ wN n + wN ms
  | [], n => by simp [sendsL, wN]
  | m :: ms, n => by
    have h1 := wN_sendsL ms (sendL m n)
    have h2 := wN_sendL m n
    show wN (sendsL ms (sendL m n)) ≤ _
    simp only [wN, List.map_cons, List.sum_cons] at h1 h2 ⊢
    omega
theorem come_head {p : PlayS} {m : Msg} {n : List Msg} (hp : p.n = m :: n) : comeS p 0 = if m.to_ = 1 then comeA p m n else comeH p m n := by
  unfold comeS
  rw [hp]
  rfl
section
variable {K : Int} {R : Nat} {p : PlayS} {m : Msg} {n : List Msg}
theorem GoodP.come (g : GoodP K R p) (hR : R ≤ 1000000) (i : Nat) : GoodP K R (comeS p i) := ⟨inv_come g.i i, cinv_come g.i g.c (by have := g.b.hl; omega) i, g.b.come i⟩
theorem GoodP.tick (g : GoodP K R p) : GoodP (K + 1) R (tickS p) := ⟨inv_tick g.i, cinv_tick g.i g.c, g.b.tick⟩
theorem out_weight (g : GoodP K R p) (hR : R ≤ 1000000) (hp : p.n = m :: n) : wN (comeS p 0).n + 1 ≤ wN p.n := by
  have hm := g.i.msg m (by rw [hp]; exact List.mem_cons_self)
  have hw : wN p.n = wM m + wN n := by rw [hp]; simp [wN]
  have h1 := wM_pos m
  rw [come_head hp]
  split
  · rw [(comeA_parts p m n).2.2.1]
    have h2 := wN_sendsL (p.a.take m p.clock).2.1 n
    have h3 : wN (p.a.take m p.clock).2.1 + 1 ≤ wM m := by
      cases atake_cases g.i g.c.bef (by have := g.b.hl; omega) hm with
      | nil t => rw [t.out]; simp only [wN, List.map_nil, List.sum_nil]; omega
      | done b y hk _ _ _ _ _ e => rw [e]; simp [wN, wM, hk, sayM]
      | under b y hk _ _ _ _ e => rw [e]; simp [wN, wM, hk, sayM]
      | new b hk _ _ _ e => rw [e]; simp [wN, wM, hk, sayM]
      | known y _ _ _ e => rw [e]; simp only [wN, List.map_nil, List.sum_nil]; omega
    omega
  · rw [(comeH_parts p m n).2.2.2.2]
    have h2 := wN_sendsL (p.h.take m).2.1 n
    have h3 : wN (p.h.take m).2.1 + 1 ≤ wM m := by
      cases htake_cases g.i.h hm.1 hm.2.1 with
      | nil _ e => rw [e]; simp only [wN, List.map_nil, List.sum_nil]; omega
      | under r _ _ _ e => rw [e]; simp only [wN, List.map_nil, List.sum_nil]; omega
      | done r hk _ _ e => rw [e]; simp [wN, wM, hk, sayM]
    omega
end
/-! ### what is under way is done with -/
def D1 (p : PlayS) (i : Nat) : Prop := ∃ r, p.h.l[i]? = some r ∧ (r.state ≠ 0 ∨ ∃ m ∈ p.n, (m.kind = 1 ∨ m.kind = 2 ∨ m.kind = 3) ∧ (m.n - 1).toNat = i)
def D2 (p : PlayS) (i : Nat) : Prop := ∃ r, p.h.l[i]? = some r ∧ (r.state = 2 ∨ ∃ m ∈ p.n, m.kind = 3 ∧ (m.n - 1).toNat = i)
theorem sayM_right {a b : Int} (hab : (a = 0 ∧ b = 1) ∨ (a = 1 ∧ b = 0)) {k n c : Int} (hk : 1 ≤ k ∧ k ≤ 9) (hn : 0 ≤ n ∧ n ≤ 1000000) : rightB (sayM a b k n c) = true := by
  unfold rightB inR linkB sayM
  rcases hab with ⟨rfl, rfl⟩ | ⟨rfl, rfl⟩
  · simp only [Bool.and_eq_true, decide_eq_true_eq]
    refine ⟨⟨⟨⟨by omega, by omega⟩, by decide⟩, by decide⟩, ⟨⟨?_, by omega⟩, by omega⟩, by decide⟩
    decide
  · simp only [Bool.and_eq_true, decide_eq_true_eq]
    refine ⟨⟨⟨⟨by omega, by omega⟩, by decide⟩, by decide⟩, ⟨⟨?_, by omega⟩, by omega⟩, by decide⟩
    decide
theorem upS_come {K : Int} {R : Nat} {p : PlayS} {m : Msg} {n : List Msg} (g : GoodP K R p) (hp : p.n = m :: n) : UpS p (comeS p 0) := by
  have hmem : m ∈ p.n := by rw [hp]; exact List.mem_cons_self
  rw [come_head hp]
  split
  · exact UpS.refl (comeA_parts p m n).1
  · exact (cinv_comeH g.i g.c (g.i.msg m hmem) (fun hk => g.c.m2 m hmem hk) (fun x hx => by rw [hp]; exact List.mem_cons_of_mem _ hx)).2
theorem net_come {p : PlayS} {m : Msg} {n : List Msg} (hp : p.n = m :: n) {x : Msg} (hx : x ∈ n) : x ∈ (comeS p 0).n := by
  rw [come_head hp]
  split
  · rw [(comeA_parts p m n).2.2.1]; exact sendsL_sub _ hx
  · rw [(comeH_parts p m n).2.2.2.2]; exact sendsL_sub _ hx
theorem heard_ag {p : PlayS} (h : InvA p) {m : Msg} (ha : Ad m) (hk : m.kind = 1 ∨ m.kind = 4) : heardB p.a.me p.a.other [1, 4] m = true := by
  obtain ⟨hr, h1⟩ := ha
  unfold heardB
  rw [hr, h.me.1, h.me.2]
  rcases h1 with ⟨_, h2, h3⟩ | ⟨h2, _⟩
  · rw [h2, h3]
    rcases hk with hk | hk <;> rw [hk] <;> rfl
  · omega
theorem heard_hub {p : PlayS} (h : InvH p) {m : Msg} (ha : Ad m) (hk : m.kind = 2 ∨ m.kind = 3) : heardB p.h.me p.h.other [2, 3] m = true := by
  obtain ⟨hr, h1⟩ := ha
  unfold heardB
  rw [hr, h.me.1, h.me.2]
  rcases h1 with ⟨h2, _⟩ | ⟨_, h2, h3⟩
  · omega
  · rw [h2, h3]
    rcases hk with hk | hk <;> rw [hk] <;> rfl
theorem clock_ok {K : Int} {R : Nat} {p : PlayS} (b : NumB K R p) (hK : K ≤ 1000000) : isClockB p.clock = true := by
  unfold isClockB
  have := b.c0
  have := b.c1
  simp only [Bool.and_eq_true, decide_eq_true_eq]
  omega
/-- what a head that goes to the hub does -/
theorem hub_head {K : Int} {R : Nat} {p : PlayS} {m : Msg} {n : List Msg} (g : GoodP K R p) (hp : p.n = m :: n) (hk : m.kind = 2 ∨ m.kind = 3) : ∃ r', (comeS p 0).h.l[(m.n - 1).toNat]? = some r' ∧ r'.state ≠ 0 ∧ (m.kind = 3 → r'.state = 2) := by
  have hmem : m ∈ p.n := by rw [hp]; exact List.mem_cons_self
  have hm := g.i.msg m hmem
  have ha := g.c.ad m hmem
  have hto : m.to_ = 0 := by
    rcases ha.2 with ⟨h, _⟩ | ⟨_, _, h⟩
    · omega
    · exact h
  rw [come_head hp, if_neg (by omega), (comeH_parts p m n).1]
  cases htake_cases g.i.h hm.1 hm.2.1 with
  | nil hh _ => rw [heard_hub g.i.h ha hk] at hh; cases hh
  | under r hk2 hr e1 _ =>
    rw [e1]
    exact ⟨_, List.getElem?_set_self (List.getElem?_eq_some_iff.1 hr).1, by simp only; omega, fun h => by omega⟩
  | done r hk3 hr e1 _ =>
    rw [e1]
    exact ⟨_, List.getElem?_set_self (List.getElem?_eq_some_iff.1 hr).1, by simp only; omega, fun _ => rfl⟩
theorem come_D2 {K : Int} {R : Nat} {p : PlayS} {m : Msg} {n : List Msg} (g : GoodP K R p) (hp : p.n = m :: n) {i : Nat} (d : D2 p i) : D2 (comeS p 0) i := by
  obtain ⟨r, hr, d⟩ := d
  obtain ⟨r', hr', _, u2⟩ := upS_come g hp i r hr
  rcases d with d | ⟨x, hx, hk, hxi⟩
  · exact ⟨r', hr', .inl (u2 d)⟩
  · rw [hp] at hx
    rcases List.mem_cons.1 hx with rfl | hx
    · obtain ⟨s, hs, _, h3⟩ := hub_head g hp (.inr hk)
      rw [hxi, hr'] at hs
      injection hs with hs
      subst hs
      exact ⟨r', hr', .inl (h3 hk)⟩
    · exact ⟨r', hr', .inr ⟨x, net_come hp hx, hk, hxi⟩⟩
theorem come_D1 {K : Int} {R : Nat} {p : PlayS} {m : Msg} {n : List Msg} (g : GoodP K R p) (hK : K ≤ 1000000) (hR : R ≤ 1000000) (hp : p.n = m :: n) {i : Nat} (d : D1 p i) : D1 (comeS p 0) i := by
  obtain ⟨r, hr, d⟩ := d
  obtain ⟨r', hr', u1, _⟩ := upS_come g hp i r hr
  by_cases h0 : r.state ≠ 0
  · exact ⟨r', hr', .inl (u1 h0)⟩
  · rcases d with d | ⟨x, hx, hk, hxi⟩
    · exact absurd d h0
    · rw [hp] at hx
      rcases List.mem_cons.1 hx with rfl | hx
      · rcases hk with hk | hk | hk
        · -- a Start
          have hmem : x ∈ p.n := by rw [hp]; exact List.mem_cons_self
          have hm := g.i.msg x hmem
          have ha := g.c.ad x hmem
          have hto : x.to_ = 1 := by
            rcases ha.2 with ⟨_, _, h⟩ | ⟨h, _⟩
            · exact h
            · omega
          have hnl : n.length < 64 := by have h9 := g.b.net; rw [hp, List.length_cons] at h9; omega
          have hn2 : 0 ≤ x.n ∧ x.n ≤ 1000000 := by have := hm.1; have := hm.2.1; have := g.b.hl; omega
          refine ⟨r', hr', .inr ?_⟩
          rw [come_head hp, if_pos hto, (comeA_parts p x n).2.2.1]
          cases atake_cases g.i g.c.bef (by have := g.b.hl; omega) hm with
          | nil t =>
            exfalso
            have := t.dead hk (heard_ag g.i.a ha (.inl hk)) (clock_ok g.b hK) r (by rw [hxi]; exact hr)
            omega
          | done b y _ _ _ hyr _ _ e =>
            rw [e]
            exact ⟨sayM 1 0 3 y.run y.code, sendL_in (sayM_right (.inr ⟨rfl, rfl⟩) (by omega) (by rw [hyr]; exact hn2)) hnl, .inr (.inr rfl), by show (y.run - 1).toNat = i; rw [hyr]; exact hxi⟩
          | under b y _ _ _ hyr _ e =>
            rw [e]
            exact ⟨sayM 1 0 2 x.n 0, sendL_in (sayM_right (.inr ⟨rfl, rfl⟩) (by omega) hn2) hnl, .inr (.inl rfl), hxi⟩
          | new b _ _ _ _ e =>
            rw [e]
            exact ⟨sayM 1 0 2 x.n 0, sendL_in (sayM_right (.inr ⟨rfl, rfl⟩) (by omega) hn2) hnl, .inr (.inl rfl), hxi⟩
          | known y hk4 _ _ _ => omega
        · obtain ⟨s, hs, h2, _⟩ := hub_head g hp (.inl hk)
          rw [hxi, hr'] at hs
          injection hs with hs
          subst hs
          exact ⟨r', hr', .inl h2⟩
        · obtain ⟨s, hs, h2, _⟩ := hub_head g hp (.inr hk)
          rw [hxi, hr'] at hs
          injection hs with hs
          subst hs
          exact ⟨r', hr', .inl h2⟩
      · exact ⟨r', hr', .inr ⟨x, net_come hp hx, hk, hxi⟩⟩
/-! ### draining -/
def drain1 (p : PlayS) : PlayS := if 0 < p.n.length then comeS p 0 else p
def drainN : Nat → PlayS → PlayS
  | 0, p => p
  | k + 1, p => drainN k (drain1 p)
theorem drain1_cases (p : PlayS) : (p.n = [] ∧ drain1 p = p) ∨ ∃ m n, p.n = m :: n ∧ drain1 p = comeS p 0 := by
  unfold drain1
  cases hp : p.n with
  | nil => exact .inl ⟨rfl, by simp⟩
  | cons m n => exact .inr ⟨m, n, rfl, by simp⟩
theorem drainN_ind {P : PlayS → Prop} {K : Int} {R : Nat} (hR : R ≤ 1000000) (step : ∀ (p : PlayS) m n, GoodP K R p → p.n = m :: n → P p → P (comeS p 0)) : ∀ (k : Nat) {p : PlayS}, GoodP K R p → P p → GoodP K R (drainN k p) ∧ P (drainN k p)
  | 0, _, g, h => ⟨g, h⟩
  | k + 1, p, g, h => by
    rcases drain1_cases p with ⟨_, e⟩ | ⟨m, n, hp, e⟩
    · rw [drainN, e]; exact drainN_ind hR step k g h
    · rw [drainN, e]; exact drainN_ind hR step k (g.come hR 0) (step p m n g hp h)
theorem drainN_empty {K : Int} {R : Nat} (hR : R ≤ 1000000) : ∀ (k : Nat) {p : PlayS}, GoodP K R p → wN p.n ≤ k → (drainN k p).n = []
  | 0, p, _, h => by
    cases hp : p.n with
    | nil => exact hp
    | cons m n =>
      have := wM_pos m
      rw [hp] at h
      simp only [wN, List.map_cons, List.sum_cons] at h
      omega
  | k + 1, p, g, h => by
    rcases drain1_cases p with ⟨hp, e⟩ | ⟨m, n, hp, e⟩
    · rw [drainN, e]
      exact drainN_empty hR k g (by rw [hp]; simp [wN])
    · rw [drainN, e]
      have := out_weight g hR hp
      exact drainN_empty hR k (g.come hR 0) (by omega)
theorem drain_all {K : Int} {R : Nat} {p : PlayS} (g : GoodP K R p) (hR : R ≤ 1000000) : (drainN 300 p).n = [] :=
  drainN_empty hR 300 g (by have := wN_le p.n; have := g.b.net; omega)
end Go.Proofs.Ytohnchkoldbpcaa

/- agent, AgentCalm, the plain law: the rounds. -/
namespace Go.Proofs.Ytohnchkoldbpcaa
open Go Go.RowKit

def drainA (p : PlayS) : PlayS := drainN 300 p
theorem drainA_ind {P : PlayS → Prop} {K : Int} {R : Nat} (hR : R ≤ 1000000) (step : ∀ (p : PlayS) m n, GoodP K R p → p.n = m :: n → P p → P (comeS p 0)) {p : PlayS} (g : GoodP K R p) (h : P p) : GoodP K R (drainA p) ∧ P (drainA p) := drainN_ind hR step 300 g h
theorem drainA_all {K : Int} {R : Nat} {p : PlayS} (g : GoodP K R p) (hR : R ≤ 1000000) : (drainA p).n = [] := drain_all g hR
theorem drainA_def (p : PlayS) : drainA p = drainN 300 p := rfl
attribute [irreducible] drainA
def roundS (p : PlayS) : PlayS := tickS (drainA p)
def roundsS : Nat → PlayS → PlayS
  | 0, p => p
  | k + 1, p => roundsS k (roundS p)
/-- what a drain keeps: the clock, how many runs, when each was asked last; runs only go on -/
structure Keep (p p' : PlayS) : Prop where
  clock : p'.clock = p.clock
  len : p'.h.l.length = p.h.l.length
  up : ∀ (i : Nat) r, p.h.l[i]? = some r → ∃ r', p'.h.l[i]? = some r' ∧ r'.sent = r.sent ∧ r'.run = r.run ∧ (r.state ≠ 0 → r'.state ≠ 0) ∧ (r.state = 2 → r'.state = 2)
theorem Keep.refl (p : PlayS) : Keep p p := ⟨rfl, rfl, fun _ r h => ⟨r, h, rfl, rfl, id, id⟩⟩
theorem Keep.trans {p q s : PlayS} (h : Keep p q) (k : Keep q s) : Keep p s := ⟨k.clock.trans h.clock, k.len.trans h.len, fun i r hr => by
  obtain ⟨a, ha, a1, a2, a3, a4⟩ := h.up i r hr
  obtain ⟨b, hb, b1, b2, b3, b4⟩ := k.up i a ha
  exact ⟨b, hb, b1.trans a1, b2.trans a2, fun h => b3 (a3 h), fun h => b4 (a4 h)⟩⟩
theorem Keep.back {p p' : PlayS} (h : Keep p p') {i : Nat} {r' : Req} (hr : p'.h.l[i]? = some r') : ∃ r, p.h.l[i]? = some r ∧ r'.sent = r.sent ∧ r'.run = r.run ∧ (r.state ≠ 0 → r'.state ≠ 0) ∧ (r.state = 2 → r'.state = 2) := by
  have hlt := (List.getElem?_eq_some_iff.1 hr).1
  rw [h.len] at hlt
  obtain ⟨a, ha, a1⟩ := h.up i _ (List.getElem?_eq_getElem hlt)
  rw [hr] at ha
  injection ha with ha
  subst ha
  exact ⟨_, List.getElem?_eq_getElem hlt, a1⟩
theorem keep_set {p p' : PlayS} {j : Nat} {r : Req} {st : Int} (hc : p'.clock = p.clock) (hr : p.h.l[j]? = some r) (hl : p'.h.l = p.h.l.set j { r with state := st }) (h0 : r.state ≠ 0 → st ≠ 0) (h2 : r.state = 2 → st = 2) : Keep p p' := by
  refine ⟨hc, by rw [hl, List.length_set], fun i x hx => ?_⟩
  rw [hl]
  by_cases hi : j = i
  · subst hi
    rw [hr] at hx
    injection hx with hx
    subst hx
    exact ⟨_, List.getElem?_set_self (List.getElem?_eq_some_iff.1 hr).1, rfl, rfl, h0, h2⟩
  · exact ⟨x, by rw [List.getElem?_set_ne hi]; exact hx, rfl, rfl, id, id⟩
theorem keep_come {K : Int} {R : Nat} {p : PlayS} {m : Msg} {n : List Msg} (g : GoodP K R p) (hp : p.n = m :: n) : Keep p (comeS p 0) := by
  have hm := g.i.msg m (by rw [hp]; exact List.mem_cons_self)
  rw [come_head hp]
  split
  · obtain ⟨e1, e2, _⟩ := comeA_parts p m n
    exact ⟨e2, by rw [e1], fun i r hr => ⟨r, by rw [e1]; exact hr, rfl, rfl, id, id⟩⟩
  · obtain ⟨e1, _, e3, _⟩ := comeH_parts p m n
    cases htake_cases g.i.h hm.1 hm.2.1 with
    | nil _ e => exact ⟨e3, by rw [e1, e], fun i r hr => ⟨r, by rw [e1, e]; exact hr, rfl, rfl, id, id⟩⟩
    | under r hk hr f1 f2 => exact keep_set e3 hr (by rw [e1, f1]) (fun h => by omega) (fun h => by omega)
    | done r hk hr f1 f2 => exact keep_set e3 hr (by rw [e1, f1]) (fun h => by omega) (fun h => rfl)
section
variable {K : Int} {R : Nat} {p : PlayS}
theorem drain_keep (g : GoodP K R p) (hR : R ≤ 1000000) : Keep p (drainA p) ∧ GoodP K R (drainA p) := by
  have h := drainA_ind (P := fun q => Keep p q) hR (fun q m n gq hq hk => hk.trans (keep_come gq hq)) g (Keep.refl p)
  exact ⟨h.2, h.1⟩
theorem drain_D1 (g : GoodP K R p) (hK : K ≤ 1000000) (hR : R ≤ 1000000) {i : Nat} (d : D1 p i) : ∃ r, (drainA p).h.l[i]? = some r ∧ r.state ≠ 0 := by
  have h := (drainA_ind (P := fun q => D1 q i) hR (fun q m n gq hq hk => come_D1 gq hK hR hq hk) g d).2
  obtain ⟨r, hr, h | ⟨m, hm, _⟩⟩ := h
  · exact ⟨r, hr, h⟩
  · rw [drainA_all g hR] at hm; cases hm
theorem drain_D2 (g : GoodP K R p) (hR : R ≤ 1000000) {i : Nat} (d : D2 p i) : ∃ r, (drainA p).h.l[i]? = some r ∧ r.state = 2 := by
  have h := (drainA_ind (P := fun q => D2 q i) hR (fun q m n gq hq hk => come_D2 gq hq hk) g d).2
  obtain ⟨r, hr, h | ⟨m, hm, _⟩⟩ := h
  · exact ⟨r, hr, h⟩
  · rw [drainA_all g hR] at hm; cases hm
theorem GoodP.round (g : GoodP K R p) (hR : R ≤ 1000000) : GoodP (K + 1) R (roundS p) := (drain_keep g hR).2.tick
/-- what a tick does to a run -/
theorem tick_req (hf : p.h.frm ≤ p.h.l.length) (hc : isClockB (p.clock + 1) = true) {i : Nat} {r' : Req} (hr : (tickS p).h.l[i]? = some r') : ∃ r, p.h.l[i]? = some r ∧ r' = if p.h.frm ≤ i then tkF (p.clock + 1) r else r := by
  have hr : (p.h.tick (p.clock + 1)).1.l[i]? = some r' := hr
  rw [tick_eq hf hc] at hr
  simp only at hr
  rw [tkL_get] at hr
  cases h0 : p.h.l[i]? with
  | none => rw [h0] at hr; cases hr
  | some r =>
    rw [h0, Option.map_some, Option.some.injEq] at hr
    refine ⟨r, rfl, ?_⟩
    rw [← hr]
    have := (List.getElem?_eq_some_iff.1 h0).1
    by_cases h1 : p.h.frm ≤ i
    · rw [if_pos h1, if_pos ⟨h1, by omega⟩]
    · rw [if_neg h1, if_neg (by omega)]
theorem startM_right (g : GoodP K R p) (hR : R ≤ 1000000) {i : Nat} {r : Req} (hr : p.h.l[i]? = some r) : rightB (startM p.h r) = true := by
  obtain ⟨h1, h2, h3, h4⟩ := g.i.h.req i r hr
  have hlt := (List.getElem?_eq_some_iff.1 hr).1
  have hl := g.b.hl
  have hlow := low_eq g.i.h
  have hfr := g.i.h.frm
  have hj := g.c.job r (List.mem_of_getElem? hr)
  unfold rightB inR linkB startM
  simp only [g.i.h.me.1, g.i.h.me.2, Bool.and_eq_true, decide_eq_true_eq, hlow]
  refine ⟨⟨⟨⟨by omega, by omega⟩, ⟨by omega, by omega⟩⟩, ⟨by omega, by omega⟩⟩, ⟨⟨?_, by omega⟩, by omega⟩, hj⟩
  decide
/-- a Start that is sent in a tick on an empty net is there -/
theorem tick_start (g : GoodP K R p) (hR : R ≤ 1000000) (hK : K + 1 ≤ 1000000) (hn : p.n = []) {i : Nat} {r : Req} (hr : p.h.l[i]? = some r) (hi : p.h.frm ≤ i) (ha : againB (p.clock + 1) r = true) : startM p.h r ∈ (tickS p).n := by
  have hc : isClockB (p.clock + 1) = true := by
    unfold isClockB
    have := g.b.c0
    have := g.b.c1
    simp only [Bool.and_eq_true, decide_eq_true_eq]
    omega
  show startM p.h r ∈ sendsL (p.a.tick (p.clock + 1)).2 (sendsL (p.h.tick (p.clock + 1)).2 p.n)
  refine sendsL_sub _ ?_
  have hmem : startM p.h r ∈ (p.h.tick (p.clock + 1)).2 := by
    unfold HubS.tick
    rw [if_pos hc]
    refine List.mem_map.2 ⟨r, List.mem_filter.2 ⟨?_, ha⟩, rfl⟩
    refine List.mem_of_getElem? (i := i - p.h.frm) ?_
    rw [List.getElem?_drop, show p.h.frm + (i - p.h.frm) = i by omega]
    exact hr
  refine sendsL_in hmem (startM_right g hR hr) ?_
  rw [hn]
  have : (p.h.tick (p.clock + 1)).2.length ≤ p.h.l.length - p.h.frm := by
    unfold HubS.tick
    rw [if_pos hc]
    simp only [List.length_map]
    refine Nat.le_trans (List.length_filter_le _ _) ?_
    rw [List.length_drop]
    exact Nat.le_refl _
  have := g.i.h.win
  simp only [List.length_nil]
  omega
/-! ### first, each run is begun -/
def Ph1 (k : Int) (p : PlayS) : Prop := ∀ (i : Nat) r, p.h.l[i]? = some r → r.state = 0 → r.sent + k ≤ p.clock ∨ ∃ m ∈ p.n, m.kind = 1 ∧ (m.n - 1).toNat = i
def Ph1' (p : PlayS) : Prop := ∀ (i : Nat) r, p.h.l[i]? = some r → r.state = 0 → ∃ m ∈ p.n, m.kind = 1 ∧ (m.n - 1).toNat = i
theorem ph1_start (g : GoodP K R p) : Ph1 0 p := fun i r hr _ => .inl (by have := (g.b.hs i r hr).2; omega)
/-- a run that is not under way behind a round: it was not ahead of it, and there was no Start -/
theorem round_zero (g : GoodP K R p) (hK : K + 1 ≤ 1000000) (hR : R ≤ 1000000) {i : Nat} {r' : Req} (hr : (roundS p).h.l[i]? = some r') (h0 : r'.state = 0) :
    ∃ r d, p.h.l[i]? = some r ∧ (drainA p).h.l[i]? = some d ∧ r.state = 0 ∧ d.state = 0 ∧ d.sent = r.sent ∧ (drainA p).h.frm ≤ i ∧ r' = tkF (p.clock + 1) d ∧ (¬ ∃ m ∈ p.n, m.kind = 1 ∧ (m.n - 1).toNat = i) := by
  obtain ⟨kp, gd⟩ := drain_keep g hR
  have hc : isClockB ((drainA p).clock + 1) = true := by
    rw [kp.clock]
    unfold isClockB
    have := g.b.c0
    have := g.b.c1
    simp only [Bool.and_eq_true, decide_eq_true_eq]
    omega
  obtain ⟨d, hd, e⟩ := tick_req gd.i.h.frm hc hr
  have hds : d.state = 0 := by
    rw [e] at h0
    split at h0
    · unfold tkF at h0
      split at h0 <;> exact h0
    · exact h0
  have hfi : (drainA p).h.frm ≤ i := by
    rcases Nat.lt_or_ge i (drainA p).h.frm with h | h
    · have := gd.c.bef i d hd h
      omega
    · exact h
  obtain ⟨r, hr0, a1, _, a3, _⟩ := kp.back hd
  have hrs : r.state = 0 := by
    by_cases h : r.state = 0
    · exact h
    · exact absurd hds (a3 h)
  refine ⟨r, d, hr0, hd, hrs, hds, a1, hfi, by rw [e, if_pos hfi, kp.clock], ?_⟩
  rintro ⟨m, hm, hk, hmi⟩
  obtain ⟨s, hs, hs0⟩ := drain_D1 g (by omega) hR ⟨r, hr0, .inr ⟨m, hm, .inl hk, hmi⟩⟩
  rw [hd] at hs
  injection hs with hs
  subst hs
  exact hs0 hds
theorem again_start (g : GoodP K R p) (hK : K + 1 ≤ 1000000) (hR : R ≤ 1000000) {i : Nat} {d : Req} (hd : (drainA p).h.l[i]? = some d) (hf : (drainA p).h.frm ≤ i) (ha : againB (p.clock + 1) d = true) : ∃ m ∈ (roundS p).n, m.kind = 1 ∧ (m.n - 1).toNat = i := by
  obtain ⟨kp, gd⟩ := drain_keep g hR
  have := (gd.i.h.req i d hd).1
  exact ⟨_, tick_start gd hR hK (drainA_all g hR) hd hf (by rw [kp.clock]; exact ha), rfl, by show (d.run - 1).toNat = i; omega⟩
theorem ph1_round {k : Int} (g : GoodP K R p) (hK : K + 1 ≤ 1000000) (hR : R ≤ 1000000) (h : Ph1 k p) : Ph1 (k + 1) (roundS p) := by
  intro i r' hr h0
  obtain ⟨kp, _⟩ := drain_keep g hR
  obtain ⟨r, d, hr0, hd, hrs, hds, hse, hf, e, hno⟩ := round_zero g hK hR hr h0
  by_cases ha : againB (p.clock + 1) d = true
  · exact .inr (again_start g hK hR hd hf ha)
  · left
    rcases h i r hr0 hrs with h1 | h1
    · rw [e]
      unfold tkF
      rw [if_neg ha]
      show d.sent + (k + 1) ≤ (drainA p).clock + 1
      rw [kp.clock, hse]
      omega
    · exact absurd h1 hno
theorem ph1_last (g : GoodP K R p) (hK : K + 1 ≤ 1000000) (hR : R ≤ 1000000) (h : Ph1 4 p) : Ph1' (roundS p) := by
  intro i r' hr h0
  obtain ⟨r, d, hr0, hd, hrs, hds, hse, hf, e, hno⟩ := round_zero g hK hR hr h0
  refine again_start g hK hR hd hf ?_
  rcases h i r hr0 hrs with h1 | h1
  · unfold againB
    rw [hds, hse]
    simp only [beq_self_eq_true, Bool.true_and, decide_eq_true_eq]
    omega
  · exact absurd h1 hno
/-! ### then, each one is reported -/
def NoZero (p : PlayS) : Prop := ∀ (i : Nat) r, p.h.l[i]? = some r → r.state ≠ 0
def Only3 (p : PlayS) : Prop := ∀ m ∈ p.n, m.kind = 3
theorem noZero_round (g : GoodP K R p) (hR : R ≤ 1000000) (hd : NoZero (drainA p)) : NoZero (roundS p) ∧ Only3 (roundS p) := by
  constructor
  · intro i r hr
    obtain ⟨r0, h0, _, _, _, h4⟩ := tickR_get (p := drainA p) (c := (drainA p).clock + 1) hr
    rw [h4]
    exact hd i r0 h0
  · intro m hm
    have hm : m ∈ sendsL ((drainA p).a.tick ((drainA p).clock + 1)).2 (sendsL ((drainA p).h.tick ((drainA p).clock + 1)).2 (drainA p).n) := hm
    have hempty : ((drainA p).h.tick ((drainA p).clock + 1)).2 = [] := by
      unfold HubS.tick
      split
      · rw [List.map_eq_nil_iff, List.filter_eq_nil_iff]
        intro r hr
        obtain ⟨j, hj⟩ := List.getElem?_of_mem (List.mem_of_mem_drop hr)
        have := hd j r hj
        unfold againB
        simp [this]
      · rfl
    rw [hempty, drainA_all g hR] at hm
    rcases sendsL_mem hm with hm | hm
    · exact (tickA_kind hm).1
    · cases hm
theorem ph2_begin (g : GoodP K R p) (hK : K + 1 ≤ 1000000) (hR : R ≤ 1000000) (h : Ph1' p) : NoZero (roundS p) ∧ Only3 (roundS p) := by
  refine noZero_round g hR ?_
  obtain ⟨kp, _⟩ := drain_keep g hR
  intro i d hd
  obtain ⟨r, hr0, _, _, a3, _⟩ := kp.back hd
  by_cases hs : r.state = 0
  · obtain ⟨m, hm, hk, hmi⟩ := h i r hr0 hs
    obtain ⟨s, hs', hs0⟩ := drain_D1 g (by omega) hR ⟨r, hr0, .inr ⟨m, hm, .inl hk, hmi⟩⟩
    rw [hd] at hs'
    injection hs' with hs'
    subst hs'
    exact hs0
  · exact a3 hs
theorem noZero_keep (g : GoodP K R p) (hR : R ≤ 1000000) (h : NoZero p) : NoZero (drainA p) := by
  obtain ⟨kp, _⟩ := drain_keep g hR
  intro i d hd
  obtain ⟨r, hr0, _, _, a3, _⟩ := kp.back hd
  exact a3 (h i r hr0)
end
end Go.Proofs.Ytohnchkoldbpcaa

/- agent, AgentCalm, the plain law: all is reported. -/
namespace Go.Proofs.Ytohnchkoldbpcaa
open Go Go.RowKit

/-- when a work tells next, at the latest -/
def dueW (x : WorkS) : Int := if x.over then x.sent + 5 else x.fin
def DoneIn (p : PlayS) (i : Nat) : Prop := ∃ m ∈ p.n, m.kind = 3 ∧ (m.n - 1).toNat = i
structure Ph2 (k : Int) (p : PlayS) : Prop where
  nz : NoZero p
  o3 : Only3 p
  due : ∀ (i : Nat) r, p.h.l[i]? = some r → r.state ≠ 2 → DoneIn p i ∨ ∃ x ∈ p.a.l, x.run = (i : Int) + 1 ∧ x.known = false ∧ dueW x ≤ p.clock + (11 - k)
structure Ph2' (p : PlayS) : Prop where
  nz : NoZero p
  o3 : Only3 p
  due : ∀ (i : Nat) r, p.h.l[i]? = some r → r.state ≠ 2 → DoneIn p i
def AllTwo (p : PlayS) : Prop := ∀ (i : Nat) r, p.h.l[i]? = some r → r.state = 2
theorem mem_set_ne {l : List WorkS} {k : Nat} {x y z : WorkS} (hx : x ∈ l) (hy : l[k]? = some y) (hne : x ≠ y) : x ∈ l.set k z := by
  obtain ⟨j, hj⟩ := List.getElem?_of_mem hx
  by_cases hk : k = j
  · subst hk
    rw [hy] at hj
    injection hj with hj
    exact absurd hj.symm hne
  · exact List.mem_of_getElem? (i := j) (by rw [List.getElem?_set_ne hk]; exact hj)
section
variable {K : Int} {R : Nat} {p : PlayS}
theorem ph2_start (g : GoodP K R p) (nz : NoZero p) (o3 : Only3 p) : Ph2 0 p := by
  refine ⟨nz, o3, fun i r hr hs => .inr ?_⟩
  obtain ⟨e, he, h0⟩ := g.c.beg i r hr (nz i r hr)
  rcases g.i.a.begun i e he h0 with ⟨x, hx, hxr⟩ | h
  · refine ⟨x, hx, hxr, ?_, ?_⟩
    · cases hk : x.known with
      | false => rfl
      | true =>
        exfalso
        obtain ⟨r', hr', hs'⟩ := g.c.kn x hx hk
        have e2 : (x.run - 1).toNat = i := by omega
        rw [e2, hr] at hr'
        injection hr' with hr'
        subst hr'
        exact hs hs'
    · unfold dueW
      have h1 := g.c.fin x hx
      have h2 := g.b.sa x hx
      split <;> omega
  · exfalso
    have := g.i.a.low.2
    rcases Nat.lt_or_ge i p.h.frm with h1 | h1
    · exact hs (g.c.bef i r hr h1)
    · omega
/-- what a drain keeps of the works, where only Dones are under way -/
structure WKeep (p q : PlayS) : Prop where
  k34 : ∀ m ∈ q.n, m.kind = 3 ∨ m.kind = 4
  work : ∀ x ∈ p.a.l, ¬ OverAt q (x.run - 1).toNat → x ∈ q.a.l
theorem wkeep_come {q : PlayS} {m : Msg} {n : List Msg} (g : GoodP K R q) (hR : R ≤ 1000000) (hq : q.n = m :: n) (h : WKeep p q) : WKeep p (comeS q 0) := by
  have hmem : m ∈ q.n := by rw [hq]; exact List.mem_cons_self
  have hm := g.i.msg m hmem
  have ha := g.c.ad m hmem
  have uS := upS_come g hq
  have hsub : ∀ x ∈ n, x.kind = 3 ∨ x.kind = 4 := fun x hx => h.k34 x (by rw [hq]; exact List.mem_cons_of_mem _ hx)
  have hk := h.k34 m hmem
  by_cases ht : m.to_ = 1
  · have hk4 : m.kind = 4 := by
      rcases ha.2 with ⟨h1, _⟩ | ⟨_, _, h1⟩ <;> omega
    have e : comeS q 0 = comeA q m n := by rw [come_head hq, if_pos ht]
    have hov := (g.c.m4 m hmem hk4).up uS
    rw [e] at hov ⊢
    obtain ⟨_, _, e3, e4⟩ := comeA_parts q m n
    cases atake_cases g.i g.c.bef (by have := g.b.hl; omega) hm with
    | nil t =>
      refine ⟨fun x hx => ?_, fun x hx hno => ?_⟩
      · rw [e3, t.out] at hx; exact hsub x hx
      · rw [e4, t.same (by omega)]
        refine h.work x hx fun ho => hno ?_
        have := ho.up uS
        rw [e] at this
        exact this
    | known y _ hy hyr et =>
      refine ⟨fun x hx => ?_, fun x hx hno => ?_⟩
      · rw [e3, et] at hx; exact hsub x hx
      · rw [e4, et]
        have hxq : x ∈ q.a.l := by
          refine h.work x hx fun ho => hno ?_
          have := ho.up uS
          rw [e] at this
          exact this
        refine mem_set_ne hxq hy fun exy => hno ?_
        rw [exy, hyr]
        exact hov
    | done b y hk1 _ _ _ _ _ _ => omega
    | under b y hk1 _ _ _ _ _ => omega
    | new b hk1 _ _ _ _ => omega
  · have e : comeS q 0 = comeH q m n := by rw [come_head hq, if_neg ht]
    rw [e]
    obtain ⟨_, e2, _, _, e5⟩ := comeH_parts q m n
    refine ⟨fun x hx => ?_, fun x hx hno => ?_⟩
    · rw [e5] at hx
      rcases sendsL_mem hx with hx | hx
      · cases htake_cases g.i.h hm.1 hm.2.1 with
        | nil _ f => rw [f] at hx; cases hx
        | under r _ _ _ f => rw [f] at hx; cases hx
        | done r _ _ _ f => rw [f] at hx; simp only [List.mem_singleton] at hx; subst hx; exact .inr rfl
      · exact hsub x hx
    · rw [e2]
      refine h.work x hx fun ho => hno ?_
      have := ho.up uS
      rw [e] at this
      exact this
theorem drain_work (g : GoodP K R p) (hR : R ≤ 1000000) (o3 : Only3 p) : ∀ x ∈ p.a.l, ¬ OverAt (drainA p) (x.run - 1).toNat → x ∈ (drainA p).a.l :=
  (drainA_ind (P := fun q => WKeep p q) hR (fun q m n gq hq hk => wkeep_come gq hR hq hk) g ⟨fun m hm => .inl (o3 m hm), fun x hx _ => hx⟩).2.work
/-- a run that is not reported behind a round -/
theorem round_not2 (g : GoodP K R p) (hR : R ≤ 1000000) (o3 : Only3 p) {i : Nat} {r' : Req} (hr : (roundS p).h.l[i]? = some r') (h2 : r'.state ≠ 2) :
    ∃ r, p.h.l[i]? = some r ∧ r.state ≠ 2 ∧ ¬ DoneIn p i ∧ ∀ x ∈ p.a.l, x.run = (i : Int) + 1 → x ∈ (drainA p).a.l := by
  obtain ⟨kp, gd⟩ := drain_keep g hR
  obtain ⟨d, hd, _, _, _, h4⟩ := tickR_get (p := drainA p) (c := (drainA p).clock + 1) hr
  have hd2 : d.state ≠ 2 := by rw [← h4]; exact h2
  obtain ⟨r, hr0, _, _, _, a4⟩ := kp.back hd
  refine ⟨r, hr0, fun h => hd2 (a4 h), ?_, ?_⟩
  · rintro ⟨m, hm, hk, hmi⟩
    obtain ⟨s, hs, hs2⟩ := drain_D2 g hR ⟨r, hr0, .inr ⟨m, hm, hk, hmi⟩⟩
    rw [hd] at hs
    injection hs with hs
    subst hs
    exact hd2 hs2
  · intro x hx hxr
    refine drain_work g hR o3 x hx ?_
    rintro ⟨s, hs, hs2⟩
    rw [show (x.run - 1).toNat = i by omega, hd] at hs
    injection hs with hs
    subst hs
    exact hd2 hs2
theorem tick_clock_ok (g : GoodP K R p) (hK : K + 1 ≤ 1000000) : isClockB (p.clock + 1) = true := by
  unfold isClockB
  have := g.b.c0
  have := g.b.c1
  simp only [Bool.and_eq_true, decide_eq_true_eq]
  omega
/-- a Done that is sent in a tick on an empty net, no Start beside it, is there -/
theorem tick_done (g : GoodP K R p) (hR : R ≤ 1000000) (hK : K + 1 ≤ 1000000) (hn : p.n = []) (nz : NoZero p) {i : Nat} {x : WorkS} (hx : x ∈ p.a.l) (hxr : x.run = (i : Int) + 1) (ht : tellB (p.clock + 1) x = true) : DoneIn (tickS p) i := by
  have hc := tick_clock_ok g hK
  have hempty : (p.h.tick (p.clock + 1)).2 = [] := by
    unfold HubS.tick
    rw [if_pos hc]
    simp only
    rw [List.map_eq_nil_iff, List.filter_eq_nil_iff]
    intro r hr
    obtain ⟨j, hj⟩ := List.getElem?_of_mem (List.mem_of_mem_drop hr)
    have := nz j r hj
    unfold againB
    simp [this]
  have hmem : sayM p.a.me p.a.other 3 x.run x.code ∈ (p.a.tick (p.clock + 1)).2 := by
    unfold AgS.tick
    rw [if_pos hc]
    exact List.mem_map.2 ⟨x, List.mem_filter.2 ⟨hx, ht⟩, rfl⟩
  refine ⟨sayM p.a.me p.a.other 3 x.run x.code, ?_, rfl, by show (x.run - 1).toNat = i; omega⟩
  show _ ∈ sendsL (p.a.tick (p.clock + 1)).2 (sendsL (p.h.tick (p.clock + 1)).2 p.n)
  rw [hempty, hn]
  obtain ⟨w1, w2, w3, w4, _⟩ := g.i.a.work x hx
  have hl := g.b.hl
  refine sendsL_in hmem ?_ ?_
  · rw [g.i.a.me.1, g.i.a.me.2]
    exact sayM_right (.inr ⟨rfl, rfl⟩) (by omega) (by omega)
  · have h1 := agtM_le p.a (p.clock + 1)
    have h2 := (inv_asks g.i).2.1
    simp only [sendsL, List.length_nil]
    omega
theorem ph2_round {k : Int} (g : GoodP K R p) (hK : K + 1 ≤ 1000000) (hR : R ≤ 1000000) (h : Ph2 k p) : Ph2 (k + 1) (roundS p) := by
  obtain ⟨kp, gd⟩ := drain_keep g hR
  have nzd := noZero_keep g hR h.nz
  obtain ⟨nz, o3⟩ := noZero_round g hR nzd
  refine ⟨nz, o3, fun i r' hr h2 => ?_⟩
  obtain ⟨r, hr0, hrs, hnd, hw⟩ := round_not2 g hR h.o3 hr h2
  rcases h.due i r hr0 hrs with hd | ⟨x, hx, hxr, hkn, hdue⟩
  · exact absurd hd hnd
  · have hxd := hw x hx hxr
    by_cases ht : tellB ((drainA p).clock + 1) x = true
    · exact .inl (tick_done gd hR hK (drainA_all g hR) nzd hxd hxr ht)
    · right
      refine ⟨x, ?_, hxr, hkn, ?_⟩
      · show x ∈ ((drainA p).a.tick ((drainA p).clock + 1)).1.l
        unfold AgS.tick
        rw [if_pos (tick_clock_ok gd hK)]
        exact List.mem_map.2 ⟨x, hxd, by rw [if_neg ht]⟩
      · show dueW x ≤ (drainA p).clock + 1 + (11 - (k + 1))
        rw [kp.clock]
        omega
theorem ph2_last (g : GoodP K R p) (hK : K + 1 ≤ 1000000) (hR : R ≤ 1000000) (h : Ph2 10 p) : Ph2' (roundS p) := by
  obtain ⟨kp, gd⟩ := drain_keep g hR
  have nzd := noZero_keep g hR h.nz
  obtain ⟨nz, o3⟩ := noZero_round g hR nzd
  refine ⟨nz, o3, fun i r' hr h2 => ?_⟩
  obtain ⟨r, hr0, hrs, hnd, hw⟩ := round_not2 g hR h.o3 hr h2
  rcases h.due i r hr0 hrs with hd | ⟨x, hx, hxr, hkn, hdue⟩
  · exact absurd hd hnd
  · refine tick_done gd hR hK (drainA_all g hR) nzd (hw x hx hxr) hxr ?_
    rw [kp.clock]
    unfold tellB
    unfold dueW at hdue
    rw [hkn]
    cases ho : x.over with
    | false => rw [ho] at hdue; simp at hdue ⊢; omega
    | true => rw [ho] at hdue; simp at hdue ⊢; omega
theorem ph2_done (g : GoodP K R p) (hR : R ≤ 1000000) (h : Ph2' p) : AllTwo (roundS p) := by
  intro i r' hr
  by_cases h2 : r'.state = 2
  · exact h2
  · obtain ⟨r, hr0, hrs, hnd, _⟩ := round_not2 g hR h.o3 hr h2
    exact absurd (h.due i r hr0 hrs) hnd
theorem allTwo_round (g : GoodP K R p) (hR : R ≤ 1000000) (h : AllTwo p) : AllTwo (roundS p) := by
  obtain ⟨kp, gd⟩ := drain_keep g hR
  intro i r' hr
  obtain ⟨d, hd, _, _, _, h4⟩ := tickR_get (p := drainA p) (c := (drainA p).clock + 1) hr
  obtain ⟨r, hr0, _, _, _, a4⟩ := kp.back hd
  rw [h4]
  exact a4 (h i r hr0)
end
/-! ### all rounds -/
theorem roundsS_add : ∀ (a b : Nat) (p : PlayS), roundsS (a + b) p = roundsS b (roundsS a p)
  | 0, b, p => by rw [Nat.zero_add]; rfl
  | a + 1, b, p => by rw [show a + 1 + b = (a + b) + 1 by omega]; exact roundsS_add a b (roundS p)
theorem rounds_good {R : Nat} (hR : R ≤ 1000000) : ∀ (k : Nat) {K : Int} {p : PlayS}, GoodP K R p → GoodP (K + k) R (roundsS k p)
  | 0, K, p, g => ⟨g.i, g.c, g.b.mono (by omega) (Nat.le_refl _)⟩
  | k + 1, K, p, g => by
    have h := rounds_good hR k (g.round hR)
    exact ⟨h.i, h.c, h.b.mono (by omega) (Nat.le_refl _)⟩
theorem rounds_ph1 {R : Nat} (hR : R ≤ 1000000) : ∀ (k : Nat) {K j : Int} {p : PlayS}, K + k ≤ 1000000 → GoodP K R p → Ph1 j p → Ph1 (j + k) (roundsS k p)
  | 0, K, j, p, _, _, h => by rw [show j + ((0 : Nat) : Int) = j by omega]; exact h
  | k + 1, K, j, p, hK, g, h => by
    have := rounds_ph1 hR k (by omega) (g.round hR) (ph1_round g (by omega) hR h)
    rw [show j + ((k + 1 : Nat) : Int) = j + 1 + k by omega]
    exact this
theorem rounds_ph2 {R : Nat} (hR : R ≤ 1000000) : ∀ (k : Nat) {K j : Int} {p : PlayS}, K + k ≤ 1000000 → GoodP K R p → Ph2 j p → Ph2 (j + k) (roundsS k p)
  | 0, K, j, p, _, _, h => by rw [show j + ((0 : Nat) : Int) = j by omega]; exact h
  | k + 1, K, j, p, hK, g, h => by
    have := rounds_ph2 hR k (by omega) (g.round hR) (ph2_round g (by omega) hR h)
    rw [show j + ((k + 1 : Nat) : Int) = j + 1 + k by omega]
    exact this
theorem rounds_two {R : Nat} (hR : R ≤ 1000000) : ∀ (k : Nat) {K : Int} {p : PlayS}, GoodP K R p → AllTwo p → AllTwo (roundsS k p)
  | 0, _, _, _, h => h
  | k + 1, _, _, g, h => rounds_two hR k (g.round hR) (allTwo_round g hR h)
theorem calm {K : Int} {R : Nat} {p : PlayS} (g : GoodP K R p) (hK : K + 60 ≤ 1000000) (hR : R ≤ 1000000) : AllTwo (roundsS 60 p) := by
  have g4 := rounds_good hR 4 g
  have a4 : Ph1 4 (roundsS 4 p) := by have := rounds_ph1 hR 4 (by omega) g (ph1_start g); rwa [show (0 : Int) + ((4 : Nat) : Int) = 4 by decide] at this
  have g5 := g4.round hR
  have a5 := ph1_last g4 (by omega) hR a4
  have g6 := g5.round hR
  obtain ⟨n6, o6⟩ := ph2_begin g5 (by omega) hR a5
  have a6 := ph2_start g6 n6 o6
  have g16 := rounds_good hR 10 g6
  have a16 : Ph2 10 (roundsS 10 (roundS (roundS (roundsS 4 p)))) := by have := rounds_ph2 hR 10 (by omega) g6 a6; rwa [show (0 : Int) + ((10 : Nat) : Int) = 10 by decide] at this
  have g17 := g16.round hR
  have a17 := ph2_last g16 (by omega) hR a16
  have g18 := g17.round hR
  have a18 := ph2_done g17 hR a17
  have a60 := rounds_two hR 42 g18 a18
  have e : roundsS 60 p = roundsS 42 (roundS (roundS (roundsS 10 (roundS (roundS (roundsS 4 p)))))) := by
    have h1 : roundsS 60 p = roundsS 56 (roundsS 4 p) := roundsS_add 4 56 p
    have h2 : ∀ q, roundsS 56 q = roundsS 54 (roundS (roundS q)) := fun _ => rfl
    have h3 : ∀ q, roundsS 54 q = roundsS 44 (roundsS 10 q) := fun q => roundsS_add 10 44 q
    have h4 : ∀ q, roundsS 44 q = roundsS 42 (roundS (roundS q)) := fun _ => rfl
    rw [h1, h2, h3, h4]
  rw [e]
  exact a60
/-- what the law asks at the end -/
theorem calm_asks {p : PlayS} (h : Inv p) (c : CInv p) (a : AllTwo p) : (∀ (i : Nat) s, p.seen[i]? = some s → s = 1) ∧ p.bad = false ∧ p.h.openN = 0 ∧ (p.a.begun : Int) = p.run := by
  refine ⟨fun i s hs => ?_, h.ok, ?_, ?_⟩
  · have hlt := (List.getElem?_eq_some_iff.1 hs).1
    rw [h.h.seenL] at hlt
    have h1 := h.h.seen i _ (List.getElem?_eq_getElem hlt)
    rw [hs, a i _ (List.getElem?_eq_getElem hlt), if_pos rfl] at h1
    injection h1
  · unfold HubS.openN
    rw [List.length_eq_zero_iff, List.filter_eq_nil_iff]
    intro r hr
    obtain ⟨j, hj⟩ := List.getElem?_of_mem (List.mem_of_mem_drop hr)
    have := a j r hj
    simp [this]
  · rw [h.a.cnt, h.h.run, ← h.h.ends]
    congr 1
    have hall : p.ends.filter (fun e => decide (0 ≤ e)) = p.ends := by
      rw [List.filter_eq_self]
      intro e he
      obtain ⟨i, hi⟩ := List.getElem?_of_mem he
      have hlt := (List.getElem?_eq_some_iff.1 hi).1
      rw [h.h.ends] at hlt
      have h1 := a i _ (List.getElem?_eq_getElem hlt)
      obtain ⟨e', he', h0⟩ := c.beg i _ (List.getElem?_eq_getElem hlt) (by omega)
      rw [hi] at he'
      injection he' with he'
      subst he'
      simpa using h0
    rw [hall]
end Go.Proofs.Ytohnchkoldbpcaa
