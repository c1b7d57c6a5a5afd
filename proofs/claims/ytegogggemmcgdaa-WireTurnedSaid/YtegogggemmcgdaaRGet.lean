/- the reference's Get: a message out of bytes. -/
import Derived.Test.YtegogggemmcgdaaGetF
import Derived.Test.YtegogggemmcgdaaPutR
namespace Go.Proofs.Ytegogggemmcgdaa
open Go Go.RowKit Go.Proofs

theorem rget_res {tmps : Array Value} {w : World} {g : Nat} {x : Msg} {e : Int} (h : Blk w g 30 x.vals) (h4 : tmps.getD 2 undef = .pointer (some ⟨g, 0, none⟩)) (h5 : tmps.getD 3 undef = .int .i64 e) :
    (results Try.f50 tmps).run Try.prog w = .ok (msgErr x e) w := by
  obtain ⟨r0, r1, r2, r3, r4, r5, r6, r7⟩ := h.cells8
  simp only [Array.getD_eq_getD_getElem?] at h4 h5
  simp [results, Try.results50, go_sem, h4, h5, r0, r1, r2, r3, r4, r5, r6, r7]
set_option maxRecDepth 100000 in
set_option maxHeartbeats 1000000 in
theorem refGetM_short (A : Option Addr) (c n : Nat) (w : World) (hn : n < 41) :
    Calls Try.prog 50 #[.slice A n c] w fun e w' => e = .returned (msgErr zeroMsg 10) ∧ Fr No w w' := by
  have hn1 : (n : Int) < 41 := by omega
  have HB := Lib.hid (Blk.new w 30 zeroMsg.vals)
  obtain ⟨r0, r1, r2, r3, r4, r5, r6, r7⟩ := HB.out.cells8
  have hfz := HB.out.frozens
  have lG := HB.out.lt
  go_enter Try.func50, Try.ntmps50
  go_wp2
  exact bodyPost_ret (v := msgErr zeroMsg 10) (rget_res (x := zeroMsg) HB.out rfl rfl) rfl ⟨rfl, (Fr.refl _ _).alloc _⟩
set_option maxRecDepth 100000 in
set_option maxHeartbeats 1000000 in
theorem refGetM_len (g o c : Nat) (e : TypeId) (l : Bs) (w : World) (h : GetIn w g o c e l) (hx : 41 + at8 l 36 ≠ (l.length : Int)) :
    Calls Try.prog 50 #[.slice (some ⟨g, o, none⟩) l.length c] w fun e w' => e = .returned (msgErr zeroMsg 11) ∧ Fr No w w' := by
  have H := Lib.hid h
  have hl0 : (41 : Int) ≤ (l.length : Int) := by have := h.long; omega
  have hl2 : (l.length : Int) ≤ 9223372036854775807 := by have := h.most; simp only [maxLen] at this; omega
  have hlc : (l.length : Int) ≤ (c : Int) := by have := h.cap; omega
  have hl3 : (0 : Int) < (l.length : Int) := by omega
  have hl36 : (36 : Int) < (l.length : Int) := by omega
  have hl5 : 0 < l.length := by omega
  have hl6 : 36 < l.length := by omega
  have n36 := at8_cell h.sl rfl 36 (by have := h.long; omega)
  obtain ⟨p0, p1⟩ := at8_range l 36
  have hg1 : g < w.heap.size := by
    obtain ⟨b, o', hA, hb, _⟩ := h.sl.cells (by have := h.long; omega)
    have hA := Option.some.inj hA
    injection hA with h1 h2
    subst h1
    exact hb
  have hw1 : IntKind.i64.wrap (at8 l 36) = at8 l 36 := IntWalk.i64_in _ (by omega)
  have hw2 : IntKind.i64.wrap (41 + at8 l 36) = 41 + at8 l 36 := IntWalk.i64_in _ (by omega)
  have hw3 : IntKind.i64.wrap (37 + at8 l 36) = 37 + at8 l 36 := IntWalk.i64_in _ (by omega)
  clear h
  have HB := Lib.hid (Blk.new w 30 zeroMsg.vals)
  obtain ⟨r0, r1, r2, r3, r4, r5, r6, r7⟩ := HB.out.cells8
  have hfz := HB.out.frozens
  have lG := HB.out.lt
  have hxb : ((l.length : Int) != 41 + at8 l 36) = true := bne_iff_ne.2 (fun e => hx e.symm)
  clear hx
  generalize at8 l 36 = x36 at n36 p0 p1 hxb hw1 hw2 hw3
  go_enter Try.func50, Try.ntmps50
  go_wp2
  exact bodyPost_ret (v := msgErr zeroMsg 11) (rget_res (x := zeroMsg) HB.out rfl rfl) rfl ⟨rfl, (Fr.refl _ _).alloc _⟩
set_option maxRecDepth 100000 in
set_option maxHeartbeats 4000000 in
theorem refGetM_main (g o c : Nat) (e : TypeId) (l : Bs) (w : World) (h : GetIn w g o c e l) (hx : 41 + at8 l 36 = (l.length : Int)) (rb qb : Bool) (hr : rightB (parse l) = rb) (hq : (bytesM (parse l) == l) = qb) :
    Calls Try.prog 50 #[.slice (some ⟨g, o, none⟩) l.length c] w fun e w' => e = .returned (if rb && qb then msgErr (parse l) 0 else msgErr zeroMsg 11) ∧ Fr No w w' := by
  have H := Lib.hid h
  have hl0 : (41 : Int) ≤ (l.length : Int) := by have := h.long; omega
  have hl2 : (l.length : Int) ≤ 9223372036854775807 := by have := h.most; simp only [maxLen] at this; omega
  have hlc : (l.length : Int) ≤ (c : Int) := by have := h.cap; omega
  have hl3 : (0 : Int) < (l.length : Int) := by omega
  have hl36 : (36 : Int) < (l.length : Int) := by omega
  have hl5 : 0 < l.length := by omega
  have hl6 : 36 < l.length := by omega
  have n36 := at8_cell h.sl rfl 36 (by have := h.long; omega)
  obtain ⟨p0, p1⟩ := at8_range l 36
  have hg1 : g < w.heap.size := by
    obtain ⟨b, o', hA, hb, _⟩ := h.sl.cells (by have := h.long; omega)
    have hA := Option.some.inj hA
    injection hA with h1 h2
    subst h1
    exact hb
  have hw1 : IntKind.i64.wrap (at8 l 36) = at8 l 36 := IntWalk.i64_in _ (by omega)
  have hw2 : IntKind.i64.wrap (41 + at8 l 36) = 41 + at8 l 36 := IntWalk.i64_in _ (by omega)
  have hw3 : IntKind.i64.wrap (37 + at8 l 36) = 37 + at8 l 36 := IntWalk.i64_in _ (by omega)
  clear h
  have HB := Lib.hid (Blk.new w 30 zeroMsg.vals)
  obtain ⟨r0, r1, r2, r3, r4, r5, r6, r7⟩ := HB.out.cells8
  have hfz := HB.out.frozens
  have lG := HB.out.lt
  have hxb : ((l.length : Int) != 41 + at8 l 36) = false := by simp [hx]
  obtain ⟨k, hk⟩ : ∃ k : Nat, (l.length : Int) - 4 = (k : Int) := ⟨l.length - 4, by omega⟩
  have hk37 : 37 + at8 l 36 = (k : Int) := by omega
  have hwk : IntKind.i64.wrap (k : Int) = (k : Int) := IntWalk.i64_in _ (by omega)
  obtain ⟨X, Ax, cx, hX, hsx, hXs⟩ := text_cut H.out k hk
  have HXT := Lib.hid hX
  have HXS := Lib.hid hXs
  clear hX hXs hx hw3 hk
  have m1 := at8_cell H.out.sl rfl 1 (by have := H.out.long; omega)
  have m2 := at8_cell H.out.sl rfl 2 (by have := H.out.long; omega)
  have m3 := at8_cell H.out.sl rfl 3 (by have := H.out.long; omega)
  obtain ⟨z10, z11⟩ := at8_range l 1
  obtain ⟨z20, z21⟩ := at8_range l 2
  obtain ⟨z30, z31⟩ := at8_range l 3
  have HPA := Lib.hid (parse_def l)
  rw [← HXT.out] at HPA
  obtain ⟨P0, A0, c0, h8_P0, h88_P0, hn_P0, hs_P0, hS_P0⟩ := num_cut H.out 0 (by omega)
  have H8_P0 := Lib.hid h8_P0
  have HS_P0 := Lib.hid hS_P0
  have hs2_P0 : ∀ w, (Instr.slice 50 (.slice (some ⟨g, o, none⟩) l.length c) (some (.int .i64 4)) (some (.int .i64 12)) none).run Try.prog w = .ok (.slice A0 (P0).length c0) w := hs_P0
  have HU_P0 := Lib.hid (show leN P0 < 18446744073709551616 by
    have h3 := Nat.pow_le_pow_right (show 0 < 256 by omega) h8_P0
    have := leN_lt P0
    omega)
  obtain ⟨u0, hu_P0⟩ : ∃ u, u = leN P0 := ⟨_, rfl⟩
  rw [← hu_P0] at hn_P0
  have HE_P0 := Lib.hid hu_P0
  have hn2_P0 := hn_P0.symm
  clear h8_P0 h88_P0 hs_P0 hS_P0 hn_P0 hu_P0
  obtain ⟨P1, A1, c1, h8_P1, h88_P1, hn_P1, hs_P1, hS_P1⟩ := num_cut H.out 1 (by omega)
  have H8_P1 := Lib.hid h8_P1
  have HS_P1 := Lib.hid hS_P1
  have hs2_P1 : ∀ w, (Instr.slice 50 (.slice (some ⟨g, o, none⟩) l.length c) (some (.int .i64 12)) (some (.int .i64 20)) none).run Try.prog w = .ok (.slice A1 (P1).length c1) w := hs_P1
  have HU_P1 := Lib.hid (show leN P1 < 18446744073709551616 by
    have h3 := Nat.pow_le_pow_right (show 0 < 256 by omega) h8_P1
    have := leN_lt P1
    omega)
  obtain ⟨u1, hu_P1⟩ : ∃ u, u = leN P1 := ⟨_, rfl⟩
  rw [← hu_P1] at hn_P1
  have HE_P1 := Lib.hid hu_P1
  have hn2_P1 := hn_P1.symm
  clear h8_P1 h88_P1 hs_P1 hS_P1 hn_P1 hu_P1
  obtain ⟨P2, A2, c2, h8_P2, h88_P2, hn_P2, hs_P2, hS_P2⟩ := num_cut H.out 2 (by omega)
  have H8_P2 := Lib.hid h8_P2
  have HS_P2 := Lib.hid hS_P2
  have hs2_P2 : ∀ w, (Instr.slice 50 (.slice (some ⟨g, o, none⟩) l.length c) (some (.int .i64 20)) (some (.int .i64 28)) none).run Try.prog w = .ok (.slice A2 (P2).length c2) w := hs_P2
  have HU_P2 := Lib.hid (show leN P2 < 18446744073709551616 by
    have h3 := Nat.pow_le_pow_right (show 0 < 256 by omega) h8_P2
    have := leN_lt P2
    omega)
  obtain ⟨u2, hu_P2⟩ : ∃ u, u = leN P2 := ⟨_, rfl⟩
  rw [← hu_P2] at hn_P2
  have HE_P2 := Lib.hid hu_P2
  have hn2_P2 := hn_P2.symm
  clear h8_P2 h88_P2 hs_P2 hS_P2 hn_P2 hu_P2
  obtain ⟨P3, A3, c3, h8_P3, h88_P3, hn_P3, hs_P3, hS_P3⟩ := num_cut H.out 3 (by omega)
  have H8_P3 := Lib.hid h8_P3
  have HS_P3 := Lib.hid hS_P3
  have hs2_P3 : ∀ w, (Instr.slice 50 (.slice (some ⟨g, o, none⟩) l.length c) (some (.int .i64 28)) (some (.int .i64 36)) none).run Try.prog w = .ok (.slice A3 (P3).length c3) w := hs_P3
  have HU_P3 := Lib.hid (show leN P3 < 18446744073709551616 by
    have h3 := Nat.pow_le_pow_right (show 0 < 256 by omega) h8_P3
    have := leN_lt P3
    omega)
  obtain ⟨u3, hu_P3⟩ : ∃ u, u = leN P3 := ⟨_, rfl⟩
  rw [← hu_P3] at hn_P3
  have HE_P3 := Lib.hid hu_P3
  have hn2_P3 := hn_P3.symm
  clear h8_P3 h88_P3 hs_P3 hS_P3 hn_P3 hu_P3
  generalize at8 l 1 = x1 at m1 z10 z11 HPA
  generalize at8 l 2 = x2 at m2 z20 z21 HPA
  generalize at8 l 3 = x3 at m3 z30 z31 HPA
  generalize at8 l 36 = x36 at n36 p0 p1 hxb hw1 hw2 hk37
  generalize num8 l 0 = a0 at hn2_P0 HPA
  generalize num8 l 1 = a1 at hn2_P1 HPA
  generalize num8 l 2 = a2 at hn2_P2 HPA
  generalize num8 l 3 = a3 at hn2_P3 HPA
  have y1 : IntKind.i64.wrap x1 = x1 := IntWalk.i64_in _ (by omega)
  have y2 : IntKind.i64.wrap x2 = x2 := IntWalk.i64_in _ (by omega)
  have y3 : IntKind.i64.wrap x3 = x3 := IntWalk.i64_in _ (by omega)
  have hla : 1 < l.length := by omega
  have hlb : 2 < l.length := by omega
  have hlc' : 3 < l.length := by omega
  have hl7 : (1 : Int) < (l.length : Int) := by omega
  have hl8 : (2 : Int) < (l.length : Int) := by omega
  have hl9 : (3 : Int) < (l.length : Int) := by omega
  have HRB := Lib.hid (HPA.out ▸ hr)
  have HQB := Lib.hid (HPA.out ▸ hq)
  clear hr hq
  rw [HPA.out]
  go_enter Try.func50, Try.ntmps50
  go_wp2
  refine wp_region_o [(0, 0), (1, 0), (2, 1), (3, 0), (4, 0), (5, 0), (6, 1), (7, 0), (8, 0), (9, 0), (10, 1), (11, 0), (12, 0), (13, 0), (16, 0), (17, 0), (20, 0), (21, 0), (24, 0), (25, 0), (28, 0), (29, 0), (30, 0), (31, 0), (32, 1), (14, 1), (18, 1), (22, 1), (26, 1), (15, 0), (19, 0), (23, 0), (27, 0), (33, 0), (34, 2), (35, 3)] (by kernel_rfl) (by kernel_rfl) ?_
  repeat (first
    | (apply wpO_pure rfl rfl; (focus (intro w'; go_simp; (try rfl); done)); try simp only [Act.put, List.setIfInBounds_toArray, List.set_cons_zero, List.set_cons_succ])
    | (apply wpO_read rfl rfl; (focus (intro w' hf' hs'; (try simp only [World.size_drew, World.cell?_drew, World.size_alloc, World.size_setCell] at hs'); go_simp; (try rfl); done)); try simp only [Act.put, List.setIfInBounds_toArray, List.set_cons_zero, List.set_cons_succ])
    | (apply wpO_skip (by decide) rfl rfl; try simp only [Act.put, List.setIfInBounds_toArray, List.set_cons_zero, List.set_cons_succ]))
  have F0 := ((Fr.refl No w).alloc (Obj.cells #[.int .i64 0, .int .i64 0, .int .i64 0, .int .i64 0, .int .i64 0, .int .i64 0, .int .i64 0, .string ⟨#[]⟩] 30)).drew
  apply wpO_read rfl rfl
  (focus (intro w' hf' hs'; have hrd := run_str (c := cx) ((HXS.out.fr0 F0).fr0 hf'); go_simp; (try rfl); done))
  try simp only [Act.put, List.setIfInBounds_toArray, List.set_cons_zero, List.set_cons_succ]
  repeat (first
    | (apply wpO_pure rfl rfl; (focus (intro w'; go_simp; (try rfl); done)); try simp only [Act.put, List.setIfInBounds_toArray, List.set_cons_zero, List.set_cons_succ])
    | (apply wpO_read rfl rfl; (focus (intro w' hf' hs'; (try simp only [World.size_drew, World.cell?_drew, World.size_alloc, World.size_setCell] at hs'); go_simp; (try rfl); done)); try simp only [Act.put, List.setIfInBounds_toArray, List.set_cons_zero, List.set_cons_succ])
    | (apply wpO_skip (by decide) rfl rfl; try simp only [Act.put, List.setIfInBounds_toArray, List.set_cons_zero, List.set_cons_succ]))
  apply wpO_call (v := .int .u64 u0) 90 #[.slice A0 P0.length c0] rfl rfl
  (focus (intro w'; go_simp; (try rfl); done))
  (focus (intro w' hf'; exact HE_P0.out ▸ refGet_any A0 c0 e P0 w' ((HS_P0.out.fr0 F0).fr0 hf') H8_P0.out))
  try simp only [Act.put, List.setIfInBounds_toArray, List.set_cons_zero, List.set_cons_succ]
  apply wpO_call (v := .int .u64 u1) 90 #[.slice A1 P1.length c1] rfl rfl
  (focus (intro w'; go_simp; (try rfl); done))
  (focus (intro w' hf'; exact HE_P1.out ▸ refGet_any A1 c1 e P1 w' ((HS_P1.out.fr0 F0).fr0 hf') H8_P1.out))
  try simp only [Act.put, List.setIfInBounds_toArray, List.set_cons_zero, List.set_cons_succ]
  apply wpO_call (v := .int .u64 u2) 90 #[.slice A2 P2.length c2] rfl rfl
  (focus (intro w'; go_simp; (try rfl); done))
  (focus (intro w' hf'; exact HE_P2.out ▸ refGet_any A2 c2 e P2 w' ((HS_P2.out.fr0 F0).fr0 hf') H8_P2.out))
  try simp only [Act.put, List.setIfInBounds_toArray, List.set_cons_zero, List.set_cons_succ]
  apply wpO_call (v := .int .u64 u3) 90 #[.slice A3 P3.length c3] rfl rfl
  (focus (intro w'; go_simp; (try rfl); done))
  (focus (intro w' hf'; exact HE_P3.out ▸ refGet_any A3 c3 e P3 w' ((HS_P3.out.fr0 F0).fr0 hf') H8_P3.out))
  try simp only [Act.put, List.setIfInBounds_toArray, List.set_cons_zero, List.set_cons_succ]
  repeat (first
    | (apply wpO_pure rfl rfl; (focus (intro w'; go_simp; (try rfl); done)); try simp only [Act.put, List.setIfInBounds_toArray, List.set_cons_zero, List.set_cons_succ])
    | (apply wpO_read rfl rfl; (focus (intro w' hf' hs'; (try simp only [World.size_drew, World.cell?_drew, World.size_alloc, World.size_setCell] at hs'); go_simp; (try rfl); done)); try simp only [Act.put, List.setIfInBounds_toArray, List.set_cons_zero, List.set_cons_succ])
    | (apply wpO_skip (by decide) rfl rfl; try simp only [Act.put, List.setIfInBounds_toArray, List.set_cons_zero, List.set_cons_succ]))
  refine wpO_loudE rfl fun K hK => ?_
  go_simp
  refine hK _ _ ⟨((Fr.refl No _).alloc _).drew.drewL, ?_⟩
  clear hK K
  repeat (first
    | (apply wpO_pure rfl rfl; (focus (intro w'; go_simp; (try rfl); done)); try simp only [Act.put, List.setIfInBounds_toArray, List.set_cons_zero, List.set_cons_succ])
    | (apply wpO_read rfl rfl; (focus (intro w' hf' hs'; (try simp only [World.size_drew, World.cell?_drew, World.size_alloc, World.size_setCell] at hs'); go_simp; (try rfl); done)); try simp only [Act.put, List.setIfInBounds_toArray, List.set_cons_zero, List.set_cons_succ])
    | (apply wpO_skip (by decide) rfl rfl; try simp only [Act.put, List.setIfInBounds_toArray, List.set_cons_zero, List.set_cons_succ]))
  refine wpO_loud rfl fun K hK => ?_
  go_simp
  refine hK _ _ ?_
  clear hK K
  repeat (first
    | (apply wpO_pure rfl rfl; (focus (intro w'; go_simp; (try rfl); done)); try simp only [Act.put, List.setIfInBounds_toArray, List.set_cons_zero, List.set_cons_succ])
    | (apply wpO_read rfl rfl; (focus (intro w' hf' hs'; (try simp only [World.size_drew, World.cell?_drew, World.size_alloc, World.size_setCell] at hs'); go_simp; (try rfl); done)); try simp only [Act.put, List.setIfInBounds_toArray, List.set_cons_zero, List.set_cons_succ])
    | (apply wpO_skip (by decide) rfl rfl; try simp only [Act.put, List.setIfInBounds_toArray, List.set_cons_zero, List.set_cons_succ]))
  refine wpO_nil ?_
  clear m1 m2 m3 hs2_P0 hs2_P1 hs2_P2 hs2_P3 hn2_P0 hn2_P1 hn2_P2 hn2_P3 hsx y1 y2 y3 z10 z11 z20 z21 z30 z31 n36 hw1 hw2 hk37 hwk hxb p0 p1 r0 r1 r2 r3 r4 r5 r6 r7 lG hfz
  have F7 := ((((Fr.refl No w).alloc (Obj.cells #[.int .i64 0, .int .i64 0, .int .i64 0, .int .i64 0, .int .i64 0, .int .i64 0, .int .i64 0, .string ⟨#[]⟩] 30)).alloc (Obj.cells (Msg.vals ⟨x1, x2, x3, a0, a1, a2, a3, strB X⟩).toArray 30)).drew)
  have B7 := (Blk.new (w.alloc (Obj.cells #[.int .i64 0, .int .i64 0, .int .i64 0, .int .i64 0, .int .i64 0, .int .i64 0, .int .i64 0, .string ⟨#[]⟩] 30)) 30 (Msg.vals ⟨x1, x2, x3, a0, a1, a2, a3, strB X⟩)).drew
  have B07 := (HB.out.alloc (Obj.cells (Msg.vals ⟨x1, x2, x3, a0, a1, a2, a3, strB X⟩).toArray 30)).drew
  have e7 : (w.alloc (Obj.cells #[.int .i64 0, .int .i64 0, .int .i64 0, .int .i64 0, .int .i64 0, .int .i64 0, .int .i64 0, .string ⟨#[]⟩] 30)).heap.size = w.heap.size + 1 := by simp
  rw [e7] at B7
  have HB7 := Lib.hid B7
  have HF7 := Lib.hid F7
  have HB07 := Lib.hid B07
  obtain ⟨t0, t1, t2, t3, t4, t5, t6, t7⟩ := B7.cells8
  have l7 := B7.lt
  clear B7 F7 B07 e7 F0
  cases rb
  · go_wp2_with (go_at_call 48; refine (refPutM_bad ⟨x1, x2, x3, a0, a1, a2, a3, strB X⟩ _ HRB.out).mono ?_; rintro e' w8 ⟨rfl, hf8⟩; have B08 := HB07.out.fr hf8 (fun h => h); have HB08 := Lib.hid B08; obtain ⟨s0, s1, s2, s3, s4, s5, s6, s7⟩ := B08.cells8; have s8 := B08.lt; have sfz := B08.frozens; have HF8 := Lib.hid (HF7.out.trans hf8); clear hf8 B08)
    exact bodyPost_ret (v := msgErr zeroMsg 11) (rget_res (x := zeroMsg) (HB08.out.set8 zeroMsg) rfl rfl) rfl ⟨rfl, HF8.out.set8 (.inr (Nat.le_refl _)) zeroMsg⟩
  · have HBL := Lib.hid (bytesM_length ⟨x1, x2, x3, a0, a1, a2, a3, strB X⟩)
    obtain ⟨Bm, hBm⟩ : ∃ Bm, Bm = bytesM ⟨x1, x2, x3, a0, a1, a2, a3, strB X⟩ := ⟨_, rfl⟩
    rw [← hBm] at HQB HBL
    have hPut := refPutM_ok ⟨x1, x2, x3, a0, a1, a2, a3, strB X⟩
    rw [← hBm] at hPut
    have HPut := Lib.hid hPut
    clear hBm hPut
    cases qb
    · have hsb : ((strB Bm).toList == (strB l).toList) = false := by rw [strB_list, strB_list]; exact HQB.out
      go_wp2_with (go_at_call 48; refine (HPut.out _ HRB.out).mono ?_; rintro e' w8 ⟨A8, c8, rfl, ho8, hf8⟩; have B08 := HB07.out.fr hf8 (fun h => h); have HB08 := Lib.hid B08; obtain ⟨s0, s1, s2, s3, s4, s5, s6, s7⟩ := B08.cells8; have s8 := B08.lt; have sfz := B08.frozens; have HF8 := Lib.hid (HF7.out.trans hf8); have q1 := run_str (c := c8) (Sl.of_own ho8); have q2 := run_str (c := c) (H.out.sl.fr0 HF8.out); clear hf8 B08 ho8)
      exact bodyPost_ret (v := msgErr zeroMsg 11) (rget_res (x := zeroMsg) (HB08.out.set8 zeroMsg) rfl rfl) rfl ⟨rfl, HF8.out.set8 (.inr (Nat.le_refl _)) zeroMsg⟩
    · have hsb : ((strB Bm).toList == (strB l).toList) = true := by rw [strB_list, strB_list]; exact HQB.out
      go_wp2_with (go_at_call 48; refine (HPut.out _ HRB.out).mono ?_; rintro e' w8 ⟨A8, c8, rfl, ho8, hf8⟩; have B08 := HB07.out.fr hf8 (fun h => h); have B78 := HB7.out.fr hf8 (fun h => h); obtain ⟨v0, v1, v2, v3, v4, v5, v6, v7⟩ := B78.cells8; have v8 := B78.lt; have HB08 := Lib.hid B08; obtain ⟨s0, s1, s2, s3, s4, s5, s6, s7⟩ := B08.cells8; have s8 := B08.lt; have sfz := B08.frozens; have HF8 := Lib.hid (HF7.out.trans hf8); have q1 := run_str (c := c8) (Sl.of_own ho8); have q2 := run_str (c := c) (H.out.sl.fr0 HF8.out); clear hf8 B08 B78 ho8)
      exact bodyPost_ret (v := msgErr ⟨x1, x2, x3, a0, a1, a2, a3, strB X⟩ 0) (rget_res (x := ⟨x1, x2, x3, a0, a1, a2, a3, strB X⟩) (HB08.out.set8 ⟨x1, x2, x3, a0, a1, a2, a3, strB X⟩) rfl rfl) rfl ⟨rfl, HF8.out.set8 (.inr (Nat.le_refl _)) ⟨x1, x2, x3, a0, a1, a2, a3, strB X⟩⟩
end Go.Proofs.Ytegogggemmcgdaa
