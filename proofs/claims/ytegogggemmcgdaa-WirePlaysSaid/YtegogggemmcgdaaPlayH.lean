/- WirePlays: do, Drain, and nothing; do, whatever the act. -/
import Derived.Test.YtegogggemmcgdaaPlayG
namespace Go.Proofs.Ytegogggemmcgdaa
open Go Go.RowKit Go.Proofs

theorem sl_frr {w w' : World} {r : Nat} {l2 : List Msg} {K : List (Int × Int)} {A : Option Addr} {n : Nat} {xs : List Value} (hs : Sl w 28 8 A n xs) (h : RefAt w r l2 K) (hf : Fr (· = r) w w') : Sl w' 28 8 A n xs := by
  obtain ⟨A1, c1, A2, c2, hB2, _⟩ := h
  refine hs.fr hf fun b cur fr hb e => ?_
  subst e
  unfold Blk at hB2
  rw [hB2] at hb
  injection hb with hb
  injection hb with _ ht
  exact absurd ht (by decide)
set_option maxRecDepth 100000 in
set_option maxHeartbeats 2000000 in
theorem do_drain (p m r : Nat) (l : List Msg) (C : Cuts) (K : List (Int × Int)) (y : Msg) (ii jj : Int) (w : World) (h : PSt p m r l C K w) :
    Calls Try.prog 41 #[.pointer (some ⟨p, 0, none⟩), .pointer (some ⟨r, 0, none⟩), (AAct.mk 9 y ii jj).val] w (DoPost p m r K w) := by
  have H := Lib.hid h
  have np : w.heap.size ≠ p := by have := h.net.lt; omega
  have nr : w.heap.size ≠ r := by have := h.ref.lt; omega
  clear h
  obtain ⟨come, hcome⟩ : ∃ come, come = drainC l C ii := ⟨_, rfl⟩
  have hcome2 : refDrainC l K ii = come := by rw [hcome, H.out.sync.drainC]
  have hL2 : refDrainL l K ii = drainL l C ii := (H.out.sync.drainL l ii).symm
  have hcl : come.length ≤ 64 := by
    have h1 : (drainC l C ii).length ≤ l.length := by unfold drainC; split; exact List.length_filter_le _ _; simp
    have := H.out.few
    rw [hcome]; omega
  have hll : (drainL l C ii).length ≤ 64 := by
    have h1 : (drainL l C ii).length ≤ l.length := by unfold drainL; split; exact List.length_filter_le _ _; exact Nat.le_refl _
    have := H.out.few
    omega
  have HC := Lib.hid hcome.symm
  have HC2 := Lib.hid hcome2
  have HL2 := Lib.hid hL2
  have HLL := Lib.hid hll
  have HCL := Lib.hid hcl
  clear hcome hcome2 hL2 hll hcl
  have F2 := Lib.hid ((Fr.refl No w).alloc (Obj.cells (AAct.mk 9 y ii jj).vals.toArray 42))
  have HB2 := Lib.hid (Blk.new w 42 (AAct.mk 9 y ii jj).vals)
  go_enter Try.func41, Try.ntmps41
  go_wp2_with (first
    | (go_at_call 23; have cs := drain_any p m l C ii _ (H.out.net.fr0 F2.out) (by have := H.out.few; omega); rw [HC.out] at cs; refine cs.mono ?_; rintro e w3 ⟨A3, c3, rfl, hsl, hn3, hf3⟩
       have bx := HB2.out.fr hf3 np
       have b9 := bx.cell 9
       have b10 := bx.lt
       simp only [List.getElem?_cons_zero, List.getElem?_cons_succ] at b9
       have N3 := Lib.hid hn3
       have F3 := Lib.hid hf3
       have S3 := Lib.hid hsl
       have R3 := Lib.hid ((H.out.ref.fr0 F2.out).frp (H.out.net.fr0 F2.out) hf3)
       clear hn3 hf3 cs bx hsl)
    | (go_at_call 81; have cs := refDrain_any r l K ii _ R3.out (by have := H.out.few; omega) (by have := H.out.fewK; omega); rw [HC2.out, HL2.out] at cs; refine cs.mono ?_; rintro e w4 ⟨A4, c4, rfl, hsl, hr4, hf4⟩
       have R4 := Lib.hid hr4
       have F4 := Lib.hid hf4
       have S4 := Lib.hid hsl
       have S34 := Lib.hid (sl_frr S3.out R3.out hf4)
       clear cs hr4 hf4 hsl)
    | (go_at_call 44; refine (all_any A3 c3 come _ S34.out (by have := HCL.out; omega)).mono ?_; rintro e w5 ⟨A5, c5, rfl, hsl, hf5⟩
       have F5 := Lib.hid hf5
       have S5 := Lib.hid hsl
       clear hf5 hsl)
    | (go_at_call 43; refine (same_any A5 A4 c5 c4 come _ S5.out (S4.out.fr0 F5.out) (by have := HCL.out; omega)).mono ?_; rintro e w6 ⟨rfl, hf6⟩
       have F6 := Lib.hid (F5.out.trans hf6)
       clear hf6))
  go_ret
  exact ⟨by simp, ((F2.out.any _).trans (F3.out.mono (fun _ _ e => .inl e))).trans ((F4.out.mono (fun _ _ e => .inr (.inr e))).trans (F6.out.any _)), drainL l C ii, C, K,
    ⟨(N3.out.frr R3.out F4.out).fr0 F6.out, R4.out.fr0 F6.out, H.out.sync, HLL.out, H.out.fewK⟩, by omega⟩
set_option maxRecDepth 100000 in
set_option maxHeartbeats 2000000 in
theorem do_none (p m r : Nat) (l : List Msg) (C : Cuts) (K : List (Int × Int)) (kd : Int) (y : Msg) (ii jj : Int) (w : World) (h : PSt p m r l C K w) (hk : ∀ n : Int, 0 ≤ n → n ≤ 9 → kd ≠ n) :
    Calls Try.prog 41 #[.pointer (some ⟨p, 0, none⟩), .pointer (some ⟨r, 0, none⟩), (AAct.mk kd y ii jj).val] w (DoPost p m r K w) := by
  have H := Lib.hid h
  clear h
  have z0 : (kd == 0) = false := beq_eq_false_iff_ne.2 (hk 0 (by omega) (by omega))
  have z1 : (kd == 1) = false := beq_eq_false_iff_ne.2 (hk 1 (by omega) (by omega))
  have z2 : (kd == 2) = false := beq_eq_false_iff_ne.2 (hk 2 (by omega) (by omega))
  have z3 : (kd == 3) = false := beq_eq_false_iff_ne.2 (hk 3 (by omega) (by omega))
  have z4 : (kd == 4) = false := beq_eq_false_iff_ne.2 (hk 4 (by omega) (by omega))
  have z5 : (kd == 5) = false := beq_eq_false_iff_ne.2 (hk 5 (by omega) (by omega))
  have z6 : (kd == 6) = false := beq_eq_false_iff_ne.2 (hk 6 (by omega) (by omega))
  have z7 : (kd == 7) = false := beq_eq_false_iff_ne.2 (hk 7 (by omega) (by omega))
  have z8 : (kd == 8) = false := beq_eq_false_iff_ne.2 (hk 8 (by omega) (by omega))
  have z9 : (kd == 9) = false := beq_eq_false_iff_ne.2 (hk 9 (by omega) (by omega))
  clear hk
  go_enter Try.func41, Try.ntmps41
  go_wp2
  go_ret
  have F2 := (Fr.refl No w).alloc (Obj.cells (AAct.mk kd y ii jj).vals.toArray 42)
  exact ⟨rfl, F2.any _, l, C, K, ⟨H.out.net.fr0 F2, H.out.ref.fr0 F2, H.out.sync, H.out.few, H.out.fewK⟩, by omega⟩
theorem do_any (p m r : Nat) (l : List Msg) (C : Cuts) (K : List (Int × Int)) (a : AAct) (w : World) (h : PSt p m r l C K w) (hK : K.length ≤ 800) :
    Calls Try.prog 41 #[.pointer (some ⟨p, 0, none⟩), .pointer (some ⟨r, 0, none⟩), a.val] w (DoPost p m r K w) := by
  obtain ⟨kd, y, ii, jj⟩ := a
  by_cases k0 : kd = 0
  · subst k0; exact do_send0 p m r l C K y ii jj w h
  by_cases k1 : kd = 1
  · subst k1; exact do_send1 p m r l C K y ii jj w h
  by_cases k2 : kd = 2
  · subst k2; exact do_send2 p m r l C K y ii jj w h
  by_cases k3 : kd = 3
  · subst k3; exact do_send3 p m r l C K y ii jj w h
  by_cases k4 : kd = 4
  · subst k4; exact do_take p m r l C K y ii jj w h
  by_cases k5 : kd = 5
  · subst k5; exact do_lose p m r l C K y ii jj w h
  by_cases k6 : kd = 6
  · subst k6; exact do_twice p m r l C K y ii jj w h
  by_cases k7 : kd = 7
  · subst k7; exact do_cut p m r l C K y ii jj w h hK
  by_cases k8 : kd = 8
  · subst k8; exact do_join p m r l C K y ii jj w h hK
  by_cases k9 : kd = 9
  · subst k9; exact do_drain p m r l C K y ii jj w h
  exact do_none p m r l C K kd y ii jj w h (fun n h0 h9 e => by omega)
end Go.Proofs.Ytegogggemmcgdaa
