/- wire.Get: bytes that fit. -/
import Derived.Test.YtegogggemmcgdaaGetM
namespace Go.Proofs.Ytegogggemmcgdaa
open Go Go.RowKit Go.Proofs

set_option maxRecDepth 100000 in
set_option maxHeartbeats 2000000 in
theorem getM_fit (g o c : Nat) (e : TypeId) (l : Bs) (rb : Bool) (w : World) (h : GetIn w g o c e l) (hf : fitB l = true) (hr : rightB (parse l) = rb) :
    Calls Try.prog 49 #[.slice (some ⟨g, o, none⟩) l.length c] w fun e w' => e = .returned (if rb then msgErr (parse l) 0 else msgErr zeroMsg 11) ∧ Fr No w w' := by
  have H := Lib.hid h
  have hl0 : (41 : Int) ≤ (l.length : Int) := by have := h.long; omega
  have hl2 : (l.length : Int) ≤ 9223372036854775807 := by have := h.most; simp only [maxLen] at this; omega
  have hlc : (l.length : Int) ≤ (c : Int) := by have := h.cap; omega
  have hl3 : (0 : Int) < (l.length : Int) := by omega
  have hl36 : (36 : Int) < (l.length : Int) := by omega
  have hl5 : 0 < l.length := by omega
  have hl6 : l ≠ [] := by intro e; subst e; simp at hl5
  obtain ⟨k, T, F, At, Af, ct, cf, hk, hT4, hst, hsf, HT, HF, HFM, HTF⟩ := tail_cut h
  have HT4 := Lib.hid hT4
  clear hT4
  have n0 := at8_cell h.sl rfl 0 (by have := h.long; omega)
  have n36 := at8_cell h.sl rfl 36 (by have := h.long; omega)
  rw [Nat.add_zero] at n0
  obtain ⟨q0, q1⟩ := at8_range l 0
  obtain ⟨p0, p1⟩ := at8_range l 36
  have HFIT := Lib.hid (fitB_def l)
  rw [← HTF.out.1, ← HTF.out.2] at HFIT
  generalize at8 l 0 = x0 at n0 q0 q1 HFIT
  generalize at8 l 36 = x36 at n36 p0 p1 HFIT
  have hg1 : g < w.heap.size := by
    obtain ⟨b, o', hA, hb, _⟩ := h.sl.cells (by have := h.long; omega)
    have hA := Option.some.inj hA
    injection hA with h1 h2
    subst h1
    exact hb
  clear h
  have hw1 : IntKind.i64.wrap x36 = x36 := IntWalk.i64_in _ (by omega)
  have hw2 : IntKind.i64.wrap (41 + x36) = 41 + x36 := IntWalk.i64_in _ (by omega)
  have HB := Lib.hid (Blk.new w 28 zeroMsg.vals)
  obtain ⟨r0, r1, r2, r3, r4, r5, r6, r7⟩ := HB.out.cells8
  have hfz := HB.out.frozens
  have lG := HB.out.lt
  rw [hf] at HFIT
  clear hf
  obtain ⟨hx0, hx36, hsum⟩ : x0 = 167 ∧ 41 + x36 = (l.length : Int) ∧ leN T = crc F := by
    have := HFIT.out.symm
    simp only [Bool.and_eq_true, beq_iff_eq] at this
    exact this
  clear HFIT
  subst hx0
  have hxb : (41 + x36 != (l.length : Int)) = false := by simp [hx36]
  clear hx36
  obtain ⟨cv, hcv⟩ : ∃ cv, cv = crc F := ⟨_, rfl⟩
  have hcl := crc_lt F
  rw [← hcv] at hcl hsum
  have HGT := Lib.hid hsum
  have HCV := Lib.hid hcv
  have hcv0 : (0 : Int) ≤ (cv : Int) := by omega
  have hwc := u64_in cv (by omega)
  clear hsum hcv
  have HRB := Lib.hid hr
  clear hr
  go_enter Try.func49, Try.ntmps49
  go_wp2
  refine wp_region_o [(0, 0), (1, 0), (2, 1), (3, 0), (4, 0), (5, 0), (6, 0), (7, 1), (8, 0), (9, 0), (10, 0), (11, 1), (12, 0), (13, 0), (14, 0), (15, 0), (16, 0), (17, 0), (19, 0), (20, 0), (21, 0), (18, 2), (22, 2), (23, 0), (24, 0), (25, 0)] (by kernel_rfl) (by kernel_rfl) ?_
  repeat (first
    | (apply wpO_pure rfl rfl; (focus (intro w'; go_simp; (try rfl); done)); try simp only [Act.put, List.setIfInBounds_toArray, List.set_cons_zero, List.set_cons_succ])
    | (apply wpO_read rfl rfl; (focus (intro w' hf' hs'; (try simp only [World.size_drew, World.cell?_drew, World.size_alloc, World.size_setCell] at hs'); go_simp; (try rfl); done)); try simp only [Act.put, List.setIfInBounds_toArray, List.set_cons_zero, List.set_cons_succ])
    | (apply wpO_skip (by decide) rfl rfl; try simp only [Act.put, List.setIfInBounds_toArray, List.set_cons_zero, List.set_cons_succ]))
  have F0 := ((Fr.refl No w).alloc (Obj.cells #[.int .i64 0, .int .i64 0, .int .i64 0, .int .i64 0, .int .i64 0, .int .i64 0, .int .i64 0, .string ⟨#[]⟩] 28)).drew
  refine wpO_loudE rfl fun K hK => ?_
  go_simp
  refine (get_any At ct e T _ (HT.out.fr0 F0) (by have := HT4.out; omega)).mono ?_
  rintro e w1 ⟨rfl, hw1'⟩
  refine hK _ _ ⟨hw1'.symm ▸ Fr.refl _ _, ?_⟩
  clear hK K
  obtain rfl := hw1'.symm
  rw [HGT.out]
  repeat (first
    | (apply wpO_pure rfl rfl; (focus (intro w'; go_simp; (try rfl); done)); try simp only [Act.put, List.setIfInBounds_toArray, List.set_cons_zero, List.set_cons_succ])
    | (apply wpO_read rfl rfl; (focus (intro w' hf' hs'; (try simp only [World.size_drew, World.cell?_drew, World.size_alloc, World.size_setCell] at hs'); go_simp; (try rfl); done)); try simp only [Act.put, List.setIfInBounds_toArray, List.set_cons_zero, List.set_cons_succ])
    | (apply wpO_skip (by decide) rfl rfl; try simp only [Act.put, List.setIfInBounds_toArray, List.set_cons_zero, List.set_cons_succ]))
  refine wpO_loudE rfl fun K hK => ?_
  go_simp
  refine (sum_any Af cf e F _ (HF.out.fr0 F0) HFM.out).mono ?_
  rintro e w2 ⟨rfl, hf2⟩
  refine hK _ _ ⟨hf2, ?_⟩
  clear hK K
  rw [← HCV.out]
  have HF2 := Lib.hid (F0.trans hf2)
  have HB2 := Lib.hid ((HB.out.drew).fr hf2 (fun h => h))
  clear hf2 F0 r0 r1 r2 r3 r4 r5 r6 r7 hfz lG n0 n36 hst hsf hxb q0 q1 p0 p1 hw1 hw2
  repeat (first
    | (apply wpO_pure rfl rfl; (focus (intro w'; go_simp; (try rfl); done)); try simp only [Act.put, List.setIfInBounds_toArray, List.set_cons_zero, List.set_cons_succ])
    | (apply wpO_read rfl rfl; (focus (intro w' hf' hs'; (try simp only [World.size_drew, World.cell?_drew, World.size_alloc, World.size_setCell] at hs'); go_simp; (try rfl); done)); try simp only [Act.put, List.setIfInBounds_toArray, List.set_cons_zero, List.set_cons_succ])
    | (apply wpO_skip (by decide) rfl rfl; try simp only [Act.put, List.setIfInBounds_toArray, List.set_cons_zero, List.set_cons_succ]))
  refine wpO_nil ?_
  go_wp2
  have e0 : (nt l 0).toArray = #[.int .i64 0, .int .i64 0, .int .i64 0, .int .i64 0] := by kernel_rfl
  have B5 := Blk.new w2 146 (nt l 0)
  have B20 := HB2.out.alloc (Obj.cells (nt l 0).toArray 146)
  have F5 := HF2.out.alloc (Obj.cells (nt l 0).toArray 146)
  rw [e0] at B5 B20 F5
  have HB5 := Lib.hid B5
  have HB20 := Lib.hid B20
  have HF5 := Lib.hid F5
  have HG0 := Lib.hid (Nat.le_refl w.heap.size)
  have HG5 := Lib.hid (HF2.out.size)
  clear e0 B5 B20 F5
  obtain ⟨G5, hG5⟩ : ∃ G5, G5 = w2.heap.size := ⟨_, rfl⟩
  rw [← hG5] at HB5 HG5 ⊢
  clear hG5
  obtain ⟨G0, hG0⟩ : ∃ G0, G0 = w.heap.size := ⟨_, rfl⟩
  rw [← hG0] at HB20
  rw [show (Value.pointer (some ⟨w.heap.size, 0, none⟩)) = Value.pointer (some ⟨G0, 0, none⟩) by rw [hG0]]
  have HGw := Lib.hid (Nat.le_of_eq hG0.symm)
  clear hG0 HG0 HB2 HB
  go_loopg [42] 4 (fun g v42 wr => GLRel w l G0 G5 g v42 wr)
  case atStart => exact ⟨0, by omega, rfl, HB5.out, HB20.out, HF5.out⟩
  case round =>
    clear HB5 HB20 HF5 HF2
    obtain ⟨i, hgi, rfl, hb5, hb0, hf⟩ := hrel
    have HB5 := Lib.hid hb5
    have HB0 := Lib.hid hb0
    have HF' := Lib.hid hf
    have hi0 : (0 : Int) ≤ (i : Int) := by omega
    clear hb5 hb0 hf
    by_cases hi : i < 4
    · have hi1 : (i : Int) < 4 := by omega
      obtain ⟨P, Ap, cp, hP8, hP, hnum, hsl, hPs⟩ := num_cut H.out i hi
      have HP8 := Lib.hid hP8
      have HPS := Lib.hid hPs
      clear hP8 hP hPs
      have hul := leN_lt P
      have HU := Lib.hid (show leN P < 18446744073709551616 by
        have h3 := Nat.pow_le_pow_right (show 0 < 256 by omega) HP8.out
        omega)
      clear hul
      obtain ⟨u, hu⟩ : ∃ u, u = leN P := ⟨_, rfl⟩
      rw [← hu] at hnum HU
      have HUE := Lib.hid hu
      clear hu
      obtain ⟨nv, hnv⟩ : ∃ nv, nv = num8 l i := ⟨_, rfl⟩
      rw [← hnv] at hnum
      have HNV := Lib.hid hnv
      clear hnv
      have hnum' := hnum.symm
      clear hnum
      have e1 : IntKind.i64.wrap ((i : Int) * 8) = (i : Int) * 8 := IntWalk.i64_in _ (by omega)
      have e2 : IntKind.i64.wrap (4 + (i : Int) * 8) = 4 + (i : Int) * 8 := IntWalk.i64_in _ (by omega)
      have e3 : IntKind.i64.wrap (((i : Int) + 1) * 8) = ((i : Int) + 1) * 8 := IntWalk.i64_in _ (by omega)
      have e4 : IntKind.i64.wrap (4 + ((i : Int) + 1) * 8) = 4 + ((i : Int) + 1) * 8 := IntWalk.i64_in _ (by omega)
      have c0 := HB5.out.cell i
      have c1 := HB5.out.frozen i
      have c2 := HB5.out.lt
      rw [nt_get hi] at c0
      go_wp2_with (go_at_call 89; refine (get_any Ap cp e P _ (HPS.out.fr0 HF'.out) HP8.out).mono ?_; rintro e' w6 ⟨rfl, hw6⟩; obtain rfl := hw6.symm; rw [← HUE.out])
      go_roundg (4 - (i + 1))
      case measure => omega
      case rel =>
        have hne : G0 ≠ G5 := HB0.out.ne_ HB5.out (by decide)
        refine ⟨i + 1, by omega, by go_num, ?_, HB0.out.far (p := ⟨G5, i, none⟩) hne _, HF'.out.setCell (p := ⟨G5, i, none⟩) (.inr HG5.out) _⟩
        have hb := HB5.out.set_ i (.int .i64 nv)
        rw [HNV.out, ← nt_set l i hi] at hb
        rw [HNV.out]
        exact hb
    · have hi1 : (4 : Int) ≤ (i : Int) := by omega
      obtain rfl : i = 4 := by omega
      obtain ⟨X, Ax, cx, hX, hsx, hXs⟩ := text_cut H.out k hk
      have HXT := Lib.hid hX
      have HXS := Lib.hid (hXs.fr0 HF'.out)
      clear hX hXs
      have m1 := at8_cell (H.out.fr0 HF'.out).sl rfl 1 (by have := H.out.long; omega)
      have m2 := at8_cell (H.out.fr0 HF'.out).sl rfl 2 (by have := H.out.long; omega)
      have m3 := at8_cell (H.out.fr0 HF'.out).sl rfl 3 (by have := H.out.long; omega)
      obtain ⟨z10, z11⟩ := at8_range l 1
      obtain ⟨z20, z21⟩ := at8_range l 2
      obtain ⟨z30, z31⟩ := at8_range l 3
      have HPA := Lib.hid (parse_def l)
      rw [← HXT.out] at HPA
      generalize at8 l 1 = x1 at m1 z10 z11 HPA
      generalize at8 l 2 = x2 at m2 z20 z21 HPA
      generalize at8 l 3 = x3 at m3 z30 z31 HPA
      have y1 : IntKind.i64.wrap x1 = x1 := IntWalk.i64_in _ (by omega)
      have y2 : IntKind.i64.wrap x2 = x2 := IntWalk.i64_in _ (by omega)
      have y3 : IntKind.i64.wrap x3 = x3 := IntWalk.i64_in _ (by omega)
      have b0 := HB5.out.cell 0
      have b1 := HB5.out.cell 1
      have b2 := HB5.out.cell 2
      have b3 := HB5.out.cell 3
      rw [nt_get (by omega), if_pos (by omega)] at b0 b1 b2 b3
      generalize num8 l 0 = a0 at b0 HPA
      generalize num8 l 1 = a1 at b1 HPA
      generalize num8 l 2 = a2 at b2 HPA
      generalize num8 l 3 = a3 at b3 HPA
      have l5 := HB5.out.lt
      have lg := Nat.lt_of_lt_of_le hg1 HF'.out.size
      have hl7 : (1 : Int) < (l.length : Int) := by omega
      have hl8 : (2 : Int) < (l.length : Int) := by omega
      have hl9 : (3 : Int) < (l.length : Int) := by omega
      have hla : 1 < l.length := by omega
      have hlb : 2 < l.length := by omega
      have hlc' : 3 < l.length := by omega
      go_wp2
      refine wp_region_o [(0, 0), (1, 0), (2, 1), (3, 0), (4, 0), (5, 0), (6, 1), (7, 0), (8, 0), (9, 0), (10, 1), (11, 0), (12, 0), (13, 1), (14, 0), (15, 1), (16, 0), (17, 1), (18, 0), (19, 1), (20, 0), (21, 0), (22, 0), (23, 1), (24, 0), (25, 2), (26, 3)] (by kernel_rfl) (by kernel_rfl) ?_
      repeat (first
        | (apply wpO_pure rfl rfl; (focus (intro w'; go_simp; (try rfl); done)); try simp only [Act.put, List.setIfInBounds_toArray, List.set_cons_zero, List.set_cons_succ])
        | (apply wpO_read rfl rfl; (focus (intro w' hf' hs'; (try simp only [World.size_drew, World.cell?_drew, World.size_alloc, World.size_setCell] at hs'); go_simp; (try rfl); done)); try simp only [Act.put, List.setIfInBounds_toArray, List.set_cons_zero, List.set_cons_succ])
        | (apply wpO_skip (by decide) rfl rfl; try simp only [Act.put, List.setIfInBounds_toArray, List.set_cons_zero, List.set_cons_succ]))
      apply wpO_read rfl rfl
      (focus (intro w' hf' hs'; have hrd := run_str (c := cx) (HXS.out.drew.fr0 hf'); go_simp; (try rfl); done))
      try simp only [Act.put, List.setIfInBounds_toArray, List.set_cons_zero, List.set_cons_succ]
      repeat (first
        | (apply wpO_pure rfl rfl; (focus (intro w'; go_simp; (try rfl); done)); try simp only [Act.put, List.setIfInBounds_toArray, List.set_cons_zero, List.set_cons_succ])
        | (apply wpO_read rfl rfl; (focus (intro w' hf' hs'; (try simp only [World.size_drew, World.cell?_drew, World.size_alloc, World.size_setCell] at hs'); go_simp; (try rfl); done)); try simp only [Act.put, List.setIfInBounds_toArray, List.set_cons_zero, List.set_cons_succ])
        | (apply wpO_skip (by decide) rfl rfl; try simp only [Act.put, List.setIfInBounds_toArray, List.set_cons_zero, List.set_cons_succ]))
      refine wpO_loudE rfl fun K hK => ?_
      go_simp
      refine hK _ _ ⟨by (repeat (first | exact Fr.refl _ _ | assumption | refine Fr.drew ?_ | refine Fr.alloc ?_ _ | refine Fr.drewL ?_)), ?_⟩
      clear hK K
      repeat (first
        | (apply wpO_pure rfl rfl; (focus (intro w'; go_simp; (try rfl); done)); try simp only [Act.put, List.setIfInBounds_toArray, List.set_cons_zero, List.set_cons_succ])
        | (apply wpO_read rfl rfl; (focus (intro w' hf' hs'; (try simp only [World.size_drew, World.cell?_drew, World.size_alloc, World.size_setCell] at hs'); go_simp; (try rfl); done)); try simp only [Act.put, List.setIfInBounds_toArray, List.set_cons_zero, List.set_cons_succ])
        | (apply wpO_skip (by decide) rfl rfl; try simp only [Act.put, List.setIfInBounds_toArray, List.set_cons_zero, List.set_cons_succ]))
      refine wpO_loud rfl fun K hK => ?_
      go_simp
      refine hK _ _ ?_
      clear hK K
      repeat (first
        | (apply wpO_pure rfl rfl; (focus (intro w'; go_simp; (try rfl); done)); try simp only [Act.put, List.setIfInBounds_toArray, List.set_cons_zero, List.set_cons_succ])
        | (apply wpO_read rfl rfl; (focus (intro w' hf' hs'; (try simp only [World.size_drew, World.cell?_drew, World.size_alloc, World.size_setCell] at hs'); go_simp; (try rfl); done)); try simp only [Act.put, List.setIfInBounds_toArray, List.set_cons_zero, List.set_cons_succ])
        | (apply wpO_skip (by decide) rfl rfl; try simp only [Act.put, List.setIfInBounds_toArray, List.set_cons_zero, List.set_cons_succ]))
      refine wpO_nil ?_
      have B7 := (Blk.new wr 28 (Msg.vals ⟨x1, x2, x3, a0, a1, a2, a3, strB X⟩)).drew
      have F7 := (HF'.out.alloc (Obj.cells (Msg.vals ⟨x1, x2, x3, a0, a1, a2, a3, strB X⟩).toArray 28)).drew
      have B07 := (HB0.out.alloc (Obj.cells (Msg.vals ⟨x1, x2, x3, a0, a1, a2, a3, strB X⟩).toArray 28)).drew
      have HB7 := Lib.hid B7
      have HF7 := Lib.hid F7
      have HB07 := Lib.hid B07
      obtain ⟨r0, r1, r2, r3, r4, r5, r6, r7⟩ := B7.cells8
      have l7 := B7.lt
      clear B7 F7 B07 b0 b1 b2 b3 m1 m2 m3 y1 y2 y3 l5 lg hsx z10 z11 z20 z21 z30 z31
      have HR2 := Lib.hid (HPA.out ▸ HRB.out)
      cases rb
      · go_wp2_with (go_at_call 52; refine (msgRight_any ⟨x1, x2, x3, a0, a1, a2, a3, strB X⟩ _).mono ?_; rintro e' w8 ⟨rfl, hf8⟩; rw [HR2.out]; have B08 := HB07.out.fr hf8 (fun h => h); have HB08 := Lib.hid B08; obtain ⟨s0, s1, s2, s3, s4, s5, s6, s7⟩ := B08.cells8; have s8 := B08.lt; have sfz := B08.frozens; have HF8 := Lib.hid (HF7.out.trans hf8); clear hf8 B08)
        exact bodyPost_ret (v := msgErr zeroMsg 11) (get_res (x := zeroMsg) (HB08.out.set8 zeroMsg) rfl rfl) rfl ⟨rfl, HF8.out.set8 (.inr HGw.out) zeroMsg⟩
      · go_wp2_with (go_at_call 52; refine (msgRight_any ⟨x1, x2, x3, a0, a1, a2, a3, strB X⟩ _).mono ?_; rintro e' w8 ⟨rfl, hf8⟩; rw [HR2.out]; have B08 := HB07.out.fr hf8 (fun h => h); have B78 := HB7.out.fr hf8 (fun h => h); obtain ⟨t0, t1, t2, t3, t4, t5, t6, t7⟩ := B78.cells8; have t8 := B78.lt; have HB08 := Lib.hid B08; obtain ⟨s0, s1, s2, s3, s4, s5, s6, s7⟩ := B08.cells8; have s8 := B08.lt; have sfz := B08.frozens; have HF8 := Lib.hid (HF7.out.trans hf8); clear hf8 B08 B78)
        rw [HPA.out]
        exact bodyPost_ret (v := msgErr ⟨x1, x2, x3, a0, a1, a2, a3, strB X⟩ 0) (get_res (x := ⟨x1, x2, x3, a0, a1, a2, a3, strB X⟩) (HB08.out.set8 ⟨x1, x2, x3, a0, a1, a2, a3, strB X⟩) rfl rfl) rfl ⟨rfl, HF8.out.set8 (.inr HGw.out) ⟨x1, x2, x3, a0, a1, a2, a3, strB X⟩⟩
end Go.Proofs.Ytegogggemmcgdaa
