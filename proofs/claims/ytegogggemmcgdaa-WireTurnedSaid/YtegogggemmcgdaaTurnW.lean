/- WireTurned: the walk. -/
import Derived.Test.YtegogggemmcgdaaTurnP
import Derived.Test.YtegogggemmcgdaaWireL
namespace Go.Proofs.Ytegogggemmcgdaa
open Go Go.RowKit Go.Proofs

theorem countI_pos (k n : Int) (h : 0 < n) : countI k n = k % n := by
  unfold countI
  rw [if_neg (by omega)]
theorem putM_cases (m : Msg) : (rightB m = false ∧ putL m = [] ∧ putE m = 1) ∨ (rightB m = true ∧ putL m = bytesM m ∧ putE m = 0) := by
  unfold putL putE
  cases rightB m
  · exact .inl ⟨rfl, rfl, rfl⟩
  · exact .inr ⟨rfl, rfl, rfl⟩
set_option maxRecDepth 100000 in
set_option maxHeartbeats 4000000 in
theorem wireTurned_walk (m : Msg) (k : Int) (cb : UInt8) (w : World) (hc0 : -9223372036854775808 ≤ m.code) (hc1 : m.code ≤ 9223372036854775807) (hk0 : -9223372036854775808 ≤ k) (hk1 : k ≤ 9223372036854775807) :
    Calls Try.prog 12 #[m.val, .int .i64 k, .int .u8 (cb.toNat : Int)] w fun e w' => e = .returned (.bool true) ∧ Fr No w w' := by
  have HB := Lib.hid (Blk.new w 30 m.vals)
  have HF := Lib.hid ((Fr.refl No w).alloc (Obj.cells m.vals.toArray 30))
  obtain ⟨r0, r1, r2, r3, r4, r5, r6, r7⟩ := HB.out.cells8
  have lB := HB.out.lt
  rcases putM_cases m with ⟨hr, hpl, hpe⟩ | ⟨hr, hpl, hpe⟩
  · have HP : Hid (∀ w, Calls Try.prog 47 #[m.val] w fun e w' => e = .returned (.tuple #[.slice none 0 0, .int .i64 1]) ∧ Fr No w w') := Lib.hid (fun w => putM_bad m w hr)
    clear hr hpl hpe hc0 hc1 hk0 hk1
    go_enter Try.func12, Try.ntmps12
    go_wp2_with (first
      | (go_at_call 14; refine (given_any m _).mono ?_; rintro e w1 ⟨rfl, hf1⟩; have HF1 := Lib.hid (HF.out.trans hf1); clear hf1 r0 r1 r2 r3 r4 r5 r6 r7 lB)
      | (go_at_call 47; refine (HP.out _).mono ?_; rintro e w2 ⟨rfl, hf2⟩; have HF2 := Lib.hid (HF1.out.trans hf2); clear hf2)
      | (go_at_call 21; refine (known_any _).mono ?_; rintro e w3 ⟨rfl, hf3⟩))
    go_ret
    exact ⟨rfl, HF2.out.trans hf3⟩
  · have HBL := Lib.hid (bytesM_length m)
    have HRL := Lib.hid (right_len hr)
    have HT : Hid (∀ (i : Nat) (d : UInt8), (bytesM m)[i]? = some d → cb ≠ d → gotM ((bytesM m).set i cb) = (zeroMsg, 11)) := Lib.hid (fun i d hi hne => turned_got hr hc0 hc1 hi hne)
    obtain ⟨pl, hpl2⟩ : ∃ pl, pl = bytesM m := ⟨_, rfl⟩
    have HP : Hid (∀ w, Calls Try.prog 47 #[m.val] w fun e w' => ∃ A c, e = .returned (.tuple #[.slice A pl.length c, .int .i64 0]) ∧ w'.ownsRow w.heap.size 5 1 (.slice A pl.length c) pl.length (enc8 pl) ∧ Fr No w w') := Lib.hid (fun w => by rw [hpl2]; exact putM_ok m w hr)
    rw [← hpl2] at HT HBL
    clear hr hpl hpe hc0 hc1 hpl2
    have hl0 : (0 : Int) < (pl.length : Int) := by have := HBL.out; omega
    have hl1 : (pl.length : Int) ≤ 61 := by have := HBL.out; have := HRL.out; omega
    have hlz : ((pl.length : Int) == 0) = false := beq_eq_false_iff_ne.2 (by omega)
    have hlp : 0 < pl.length := by omega
    have hz0 := Int.emod_nonneg k (show (pl.length : Int) ≠ 0 by omega)
    have hz1 := Int.emod_lt_of_pos k hl0
    obtain ⟨i, hi⟩ : ∃ i : Nat, k % (pl.length : Int) = (i : Int) := ⟨(k % (pl.length : Int)).toNat, by omega⟩
    have HCT := Lib.hid (show countI k (pl.length : Int) = (i : Int) by rw [countI_pos k _ hl0]; exact hi)
    rw [hi] at hz0 hz1
    clear hi
    obtain ⟨d, hd⟩ : ∃ d, pl[i]? = some d := ⟨_, List.getElem?_eq_getElem (by omega)⟩
    have HD := Lib.hid hd
    have HK0 := Lib.hid hk0
    have HK1 := Lib.hid hk1
    clear hd hk0 hk1
    by_cases hcd : cb = d
    · have hbq : ((d.toNat : Int) == (cb.toNat : Int)) = true := by rw [hcd]; simp
      go_enter Try.func12, Try.ntmps12
      go_wp2_with (first
        | (go_at_call 14; refine (given_any m _).mono ?_; rintro e w1 ⟨rfl, hf1⟩; have HF1 := Lib.hid (HF.out.trans hf1); clear hf1 r0 r1 r2 r3 r4 r5 r6 r7 lB)
        | (go_at_call 47; refine (HP.out _).mono ?_; rintro e w2 ⟨A2, c2, rfl, ho2, hf2⟩; have HF2 := Lib.hid (HF1.out.trans hf2); obtain ⟨g2, rfl⟩ := buf_some ho2 hlp; have HO2 := Lib.hid ho2; clear hf2 ho2)
        | (go_at_call 16; refine (count_any k (pl.length : Int) _ HK0.out HK1.out hl0 (by omega)).mono ?_; rintro e w3 ⟨rfl, hf3⟩; rw [HCT.out]; have HF3 := Lib.hid (HF2.out.trans hf3); have O3 := own_fr0 HO2.out hf3; have n0 := O3.cellAt i (by omega); rw [enc8_get HD.out] at n0; have n1 := O3.frozenAt i; have n2 := (own_size O3 g2 rfl).2; have HO3 := Lib.hid O3; clear hf3 O3)
        | (go_at_call 21; refine (known_any _).mono ?_; rintro e w4 ⟨rfl, hf4⟩))
      go_ret
      exact ⟨rfl, HF3.out.trans hf4⟩
    · have hbq : ((d.toNat : Int) == (cb.toNat : Int)) = false := beq_eq_false_iff_ne.2 (fun e => hcd (UInt8.toNat_inj.1 (by omega)))
      have HG := Lib.hid (HT.out i d HD.out hcd)
      go_enter Try.func12, Try.ntmps12
      go_wp2_with (first
        | (go_at_call 14; refine (given_any m _).mono ?_; rintro e w1 ⟨rfl, hf1⟩; have HF1 := Lib.hid (HF.out.trans hf1); clear hf1 r0 r1 r2 r3 r4 r5 r6 r7 lB)
        | (go_at_call 47; refine (HP.out _).mono ?_; rintro e w2 ⟨A2, c2, rfl, ho2, hf2⟩; have HF2 := Lib.hid (HF1.out.trans hf2); obtain ⟨g2, rfl⟩ := buf_some ho2 hlp; have HB2 := Lib.hid (own_size ho2 g2 rfl).1; have HO2 := Lib.hid ho2; clear hf2 ho2)
        | (go_at_call 16; refine (count_any k (pl.length : Int) _ HK0.out HK1.out hl0 (by omega)).mono ?_; rintro e w3 ⟨rfl, hf3⟩; rw [HCT.out]; have HF3 := Lib.hid (HF2.out.trans hf3); have O3 := own_fr0 HO2.out hf3; have n0 := O3.cellAt i (by omega); rw [enc8_get HD.out] at n0; have n1 := O3.frozenAt i; have n2 := (own_size O3 g2 rfl).2; have HO3 := Lib.hid O3; clear hf3 O3)
        | (go_at_call 49; go_loud (
           have O4 := (HO3.out.stored i (.int .u8 (cb.toNat : Int))).1
           rw [← enc8_set] at O4
           have hls : (pl.set i cb).length = pl.length := List.length_set
           have S4 := Sl.of_own O4
           rw [← hls] at S4 ⊢
           refine (getM_any (some ⟨g2, 0, none⟩) c2 _ (pl.set i cb) _ S4 (by rw [hls]; exact own_cap HO3.out) (by rw [hls]; simp only [maxLen]; omega)).mono ?_)
           rintro e w5 ⟨rfl, hf5⟩
           rw [HG.out]
           have HF5 := Lib.hid ((HF3.out.setCell (p := ⟨g2, i, none⟩) (.inr (Nat.le_trans HF1.out.size HB2.out)) (.int .u8 (cb.toNat : Int))).trans hf5)
           clear hf5 O4 S4 hls)
        | (go_at_call 21; refine (known_any _).mono ?_; rintro e w6 ⟨rfl, hf6⟩))
      go_ret
      exact ⟨rfl, (HF5.out.alloc _).trans hf6⟩
end Go.Proofs.Ytegogggemmcgdaa
