/- wire: the law's own helpers: given, Count, known. -/
import Derived.Test.YtegogggemmcgdaaWireF
namespace Go.Proofs.Ytegogggemmcgdaa
open Go Go.RowKit Go.Proofs

theorem given_any (x : Msg) (w : World) :
    Calls Try.prog 14 #[x.val] w fun e w' => e = .returned x.val ∧ Fr No w w' := by
  go_enter Try.func14, Try.ntmps14
  go_wp2
  exact bodyPost_ret (v := x.val) (by simp [results, Try.results14, go_sem]) rfl ⟨rfl, by (repeat (first | exact Fr.refl _ _ | assumption | refine Fr.drew ?_ | refine Fr.alloc ?_ _ | refine Fr.drewL ?_))⟩

def countI (k n : Int) : Int := if n < 1 then 0 else k % n
theorem count_any (k n : Int) (w : World) (hk : -9223372036854775808 ≤ k) (hk' : k ≤ 9223372036854775807) (hn : 0 < n) (hn' : n ≤ 2147483648) :
    Calls Try.prog 16 #[.int .i64 k, .int .i64 n] w fun e w' => e = .returned (.int .i64 (countI k n)) ∧ Fr No w w' := by
  have e : countI k n = k % n := by simp [countI]; omega
  rw [e]
  clear e
  have h1 := Int.emod_nonneg k (show n ≠ 0 by omega)
  have h2 := Int.emod_lt_of_pos k hn
  by_cases hp : 0 ≤ k
  · go_enter Try.func16, Try.ntmps16
    go_wp2
    go_ret
    exact ⟨rfl, Fr.refl _ _⟩
  · have hp' : k < 0 := by omega
    have h1' : ¬ n < 1 := by omega
    go_enter Try.func16, Try.ntmps16
    have ht : k.tmod n = k % n ∨ k.tmod n = k % n - n := by
      have := Int.tmod_eq_emod (a := k) (b := n)
      have hna : (n.natAbs : Int) = n := by omega
      split at this <;> omega
    have HT := Lib.hid ht
    clear ht
    go_wp2
    all_goals go_ret
    · exact ⟨ret_int (by have := HT.out; unfold wrap64; omega), Fr.refl _ _⟩
    · exact ⟨ret_int (by have := HT.out; omega), Fr.refl _ _⟩

/-! ### what must come of fixed calls -/
abbrev k0 : Msg := ⟨0, 1, 1, 5, 0, 0, 0, ByteArray.empty⟩
set_option maxRecDepth 100000 in
set_option maxHeartbeats 2000000 in
theorem known_any (w : World) :
    Calls Try.prog 21 #[] w fun e w' => e = .returned (.bool true) ∧ Fr No w w' := by
  go_enter Try.func21, Try.ntmps21
  go_wp2_with fail
  refine (new_any _).mono ?_
  rintro e w1 ⟨p, m, rfl, hp, hm, N1, F1⟩
  have HP := Lib.hid hp
  have HM := Lib.hid hm
  go_wp2_with fail
  have c2 := send_any p m [] [] k0 w1 N1
  rw [show sendE k0 [] = 0 by decide +kernel, show sendL k0 [] = [k0] by rfl] at c2
  refine c2.mono ?_
  clear c2
  rintro e w2 ⟨rfl, N2, F2⟩
  go_wp2_with fail
  have c3 := cut_any p m [k0] [] 1 0 w2 N2
  rw [show turnE 1 0 = 0 by decide +kernel, show turnC [] 1 0 true = [((0, 1), true)] by rfl] at c3
  refine c3.mono ?_
  clear c3
  rintro e w3 ⟨rfl, N3, F3⟩
  go_wp2_with fail
  have c4 := first_any p m [k0] [((0, 1), true)] w3 N3 (by decide)
  rw [show firstI [k0] [((0, 1), true)] = -1 by rfl] at c4
  refine c4.mono ?_
  clear c4
  rintro e w4 ⟨rfl, F4⟩
  go_wp2_with fail
  have c5 := take_cut p m [k0] [((0, 1), true)] 0 k0 w4 (N3.fr0 F4) rfl rfl
  refine c5.mono ?_
  clear c5
  rintro e w5 ⟨rfl, F5⟩
  go_wp2_with fail
  have N5 := ((N3.fr0 F4).fr0 F5).alloc (Obj.cells zeroMsg.vals.toArray 28)
  have c6 := join_any p m [k0] [((0, 1), true)] 0 1 _ N5
  rw [show turnE 0 1 = 0 by decide +kernel, show turnC [((0, 1), true)] 0 1 false = [((0, 1), false)] by rfl] at c6
  refine c6.mono ?_
  clear c6
  rintro e w6 ⟨rfl, N6, F6⟩
  go_wp2_with fail
  have c7 := first_any p m [k0] [((0, 1), false)] w6 N6 (by decide)
  rw [show firstI [k0] [((0, 1), false)] = 0 by rfl] at c7
  refine c7.mono ?_
  clear c7
  rintro e w7 ⟨rfl, F7⟩
  go_wp2_with fail
  have c8 := take_ok p m [k0] [((0, 1), false)] 0 k0 w7 (N6.fr0 F7) rfl (by decide) rfl
  refine c8.mono ?_
  clear c8
  rintro e w8 ⟨rfl, N8, F8⟩
  go_wp2_with fail
  have c9 := len_any p m [] [((0, 1), false)] _ (N8.alloc (Obj.cells k0.vals.toArray 28))
  refine c9.mono ?_
  clear c9
  rintro e w9 ⟨rfl, F9⟩
  go_wp2
  go_ret
  refine ⟨rfl, ?_⟩
  have G0 := F1
  have G1 := G0.step (S := No) F2 (fun i hi => .inr (by have := HP.out; omega))
  have G2 := G1.step (S := No) F3 (fun i hi => .inr (by have := HM.out; omega))
  have G3 := ((G2.trans F4).trans F5).alloc (Obj.cells zeroMsg.vals.toArray 28)
  have G4 := G3.step (S := No) F6 (fun i hi => .inr (by have := HM.out; omega))
  have G5 := (G4.trans F7).step (S := No) F8 (fun i hi => .inr (by have := HP.out; omega))
  exact (G5.alloc _).trans F9
end Go.Proofs.Ytegogggemmcgdaa
