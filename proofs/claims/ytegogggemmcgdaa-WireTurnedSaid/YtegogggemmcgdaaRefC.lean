/- ref.Net: Send, Twice. -/
import Derived.Test.YtegogggemmcgdaaRefB
namespace Go.Proofs.Ytegogggemmcgdaa
open Go Go.RowKit Go.Proofs

theorem refMsg_info : (Try.prog.info? 30).map (fun i => (i.zero, i.size, i.bytes)) = some (some (.agg #[.int .i64 0, .int .i64 0, .int .i64 0, .int .i64 0, .int .i64 0, .int .i64 0, .int .i64 0, .string ByteArray.empty]), 8, 72) := by kernel_rfl
theorem refSend_wrong (r : Nat) (y : Msg) (w : World) (hr : rightB y = false) :
    Calls Try.prog 75 #[.pointer (some ⟨r, 0, none⟩), y.val] w fun e w' => e = .returned (.int .i64 1) ∧ Fr No w w' := by
  go_enter Try.func75, Try.ntmps75
  go_wp2_with (go_at_call 86; refine (refRight_any y _).mono ?_; rintro e w1 ⟨rfl, hf1⟩)
  go_ret
  exact ⟨rfl, ((Fr.refl _ _).alloc _).trans hf1⟩
theorem refSend_full (r : Nat) (l : List Msg) (K : List (Int × Int)) (y : Msg) (w : World) (h : RefAt w r l K) (hr : rightB y = true) (hn : 64 ≤ l.length) :
    Calls Try.prog 75 #[.pointer (some ⟨r, 0, none⟩), y.val] w fun e w' => e = .returned (.int .i64 4) ∧ Fr No w w' := by
  have H := Lib.hid h
  have hn' : (64 : Int) ≤ (l.length : Int) := by omega
  clear h
  go_enter Try.func75, Try.ntmps75
  go_wp2_with (go_at_call 86; refine (refRight_any y _).mono ?_; rintro e w1 ⟨rfl, hf1⟩
               obtain ⟨A, c, A2, c2, hB, hS, hc, hS2, hc2⟩ := (H.out.fr0 ((Fr.refl No w).alloc (Obj.cells y.vals.toArray 30))).fr0 hf1
               have n0 := hB.cell 0
               simp only [List.getElem?_cons_zero] at n0
               clear hB hS hS2)
  go_ret
  exact ⟨rfl, ((Fr.refl _ _).alloc _).trans hf1⟩
set_option maxRecDepth 100000 in
set_option maxHeartbeats 2000000 in
theorem refSend_room (r : Nat) (l : List Msg) (K : List (Int × Int)) (y : Msg) (w : World) (h : RefAt w r l K) (hr : rightB y = true) (hn : l.length < 64) :
    Calls Try.prog 75 #[.pointer (some ⟨r, 0, none⟩), y.val] w fun e w' => e = .returned (.int .i64 0) ∧ RefAt w' r (l ++ [y]) K ∧ Fr (· = r) w w' := by
  have H := Lib.hid h
  have hn' : (l.length : Int) < (64 : Int) := by omega
  have hn2 : (0 : Int) ≤ (l.length : Int) := by omega
  clear h
  obtain ⟨i0, hi0, hz0, hz1, hz2⟩ := info_parts refMsg_info
  go_enter Try.func75, Try.ntmps75
  go_wp2_with (go_at_call 86; refine (refRight_any y _).mono ?_; rintro e w1 ⟨rfl, hf1⟩
               have hbx := (Blk.new w 30 y.vals).fr hf1 (fun h => h)
               obtain ⟨q0, q1, q2, q3, q4, q5, q6, q7⟩ := hbx.cells8
               have ql := hbx.lt
               have HBX := Lib.hid hbx
               have F1 := Lib.hid (((Fr.refl No w).alloc (Obj.cells y.vals.toArray 30)).trans hf1)
               obtain ⟨A, c, A2, c2, hB, hS, hc, hS2, hc2⟩ := H.out.fr0 F1.out
               have n0 := hB.cell 0
               simp only [List.getElem?_cons_zero] at n0
               have nf := hB.frozen 0
               have rl := hB.lt
               have hn3 : (l.length : Int) ≤ (c : Int) := by omega
               have HB := Lib.hid hB
               have HS := Lib.hid hS
               have HS2 := Lib.hid hS2
               clear hB hS hS2 hbx hf1)
  refine wp_region_o [(0, 0), (1, 0), (2, 0), (3, 0), (5, 0), (6, 0), (7, 0), (10, 0), (11, 0), (12, 0), (4, 1), (8, 1), (9, 1), (13, 1), (14, 1), (15, 0), (16, 1), (17, 2), (18, 2), (19, 0), (20, 0), (21, 3)] (by kernel_rfl) (by kernel_rfl) ?_
  repeat (first
    | (apply wpO_pure rfl rfl; (focus (intro w'; go_simp; (try rfl); done)); try simp only [Act.put, List.setIfInBounds_toArray, List.set_cons_zero, List.set_cons_succ])
    | (apply wpO_read rfl rfl; (focus (intro w' hf' hs'; (try simp only [World.size_drew, World.cell?_drew, World.size_alloc, World.size_setCell] at hs'); go_simp; (try rfl); done)); try simp only [Act.put, List.setIfInBounds_toArray, List.set_cons_zero, List.set_cons_succ])
    | (apply wpO_skip (by decide) rfl rfl; try simp only [Act.put, List.setIfInBounds_toArray, List.set_cons_zero, List.set_cons_succ]))
  refine wpO_loudE rfl fun K hK => ?_
  go_simp
  refine hK _ _ ⟨by (repeat (first | exact Fr.refl _ _ | assumption | refine Fr.drew ?_ | refine Fr.alloc ?_ _ | refine Fr.drewL ?_)), ?_⟩
  clear hK K
  repeat (first
    | (apply wpO_pure rfl rfl; (focus (intro w'; go_simp; (try rfl); done)); try simp only [Act.put, List.setIfInBounds_toArray, List.set_cons_zero, List.set_cons_succ])
    | (apply wpO_read rfl rfl; (focus (intro w' hf' hs'; (try simp only [World.size_drew, World.cell?_drew, World.size_alloc, World.size_setCell] at hs'); go_simp; (try rfl); done)); try simp only [Act.put, List.setIfInBounds_toArray, List.set_cons_zero, List.set_cons_succ])
    | (apply wpO_skip (by decide) rfl rfl; try simp only [Act.put, List.setIfInBounds_toArray, List.set_cons_zero, List.set_cons_succ]))
  refine wpO_loudE rfl fun K' hK => ?_
  refine step_append_new rfl _ _ 22 rfl 30 i0 _ 8 72 Try.underlying22 hi0 hz0 hz1 hz2 rfl A l.length l.length (l.flatMap Msg.vals) rfl (HS.out.alloc _).drew (some ⟨w1.heap.size, 0, none⟩) 1 1 30 y.vals rfl (Sl.of_new w1 30 8 1 y.vals.toArray y.vals rfl rfl).drew (by omega) (by omega) (by simp only [maxLen]; omega) (by omega) ?_
  intro cap cur g1 g2 g3 g4
  refine hK _ _ ⟨by (repeat (first | exact Fr.refl _ _ | assumption | refine Fr.drew ?_ | refine Fr.alloc ?_ _ | refine Fr.drewL ?_)), ?_⟩
  clear hK K'
  try simp only [Act.put, List.setIfInBounds_toArray, List.set_cons_zero, List.set_cons_succ]
  repeat (first
    | (apply wpO_pure rfl rfl; (focus (intro w'; go_simp; (try rfl); done)); try simp only [Act.put, List.setIfInBounds_toArray, List.set_cons_zero, List.set_cons_succ])
    | (apply wpO_read rfl rfl; (focus (intro w' hf' hs'; (try simp only [World.size_drew, World.cell?_drew, World.size_alloc, World.size_setCell] at hs'); go_simp; (try rfl); done)); try simp only [Act.put, List.setIfInBounds_toArray, List.set_cons_zero, List.set_cons_succ])
    | (apply wpO_skip (by decide) rfl rfl; try simp only [Act.put, List.setIfInBounds_toArray, List.set_cons_zero, List.set_cons_succ]))
  refine wpO_loud rfl fun K' hK => ?_
  go_simp
  refine hK _ _ (wpO_nil ?_)
  clear hK K'
  go_wp2
  go_ret
  have hb2 := ((HB.out.set_ 0 (.slice (some ⟨w1.heap.size + 1, 0, none⟩) (l.length + 1) cap)).alloc (Obj.cells y.vals.toArray 30)).alloc (.cells cur 30)
  have hs2 := Sl.of_new ((w1.setCell ⟨r, 0, none⟩ (.slice (some ⟨w1.heap.size + 1, 0, none⟩) (l.length + 1) cap)).alloc (Obj.cells y.vals.toArray 30)) 30 8 (l.length + 1) cur _ (by rw [← vals_snoc, vals_len]; simp) g4
  have hk2 := ((HS2.out.far HB.out (by decide) (p := ⟨r, 0, none⟩) rfl (.slice (some ⟨w1.heap.size + 1, 0, none⟩) (l.length + 1) cap)).alloc (Obj.cells y.vals.toArray 30)).alloc (.cells cur 30)
  refine ⟨rfl, ⟨some ⟨w1.heap.size + 1, 0, none⟩, cap, A2, c2, ?_, ?_, ?_, hk2, hc2⟩, ?_⟩
  · simp only [List.length_append, List.length_cons, List.length_nil, Nat.zero_add]
    exact hb2.drew.drew
  · simp only [World.size_alloc, World.size_setCell] at hs2
    simp only [List.length_append, List.length_cons, List.length_nil, Nat.zero_add, vals_snoc]
    exact hs2.drew.drew
  · simpa using g1
  · exact Fr.drew (Fr.drew (Fr.alloc (Fr.alloc (Fr.setCell (F1.out.any (· = r)) (.inl rfl) _) _) _))
theorem refSend_any (r : Nat) (l : List Msg) (K : List (Int × Int)) (y : Msg) (w : World) (h : RefAt w r l K) :
    Calls Try.prog 75 #[.pointer (some ⟨r, 0, none⟩), y.val] w fun e w' => e = .returned (.int .i64 (sendE y l)) ∧ RefAt w' r (sendL y l) K ∧ Fr (· = r) w w' := by
  cases hr : rightB y with
  | false =>
    have e1 : sendE y l = 1 := by simp [sendE, hr]
    have e2 : sendL y l = l := by simp [sendL, hr]
    rw [e1, e2]
    refine (refSend_wrong r y w hr).mono ?_
    rintro e w' ⟨rfl, hf⟩
    exact ⟨rfl, h.fr0 hf, hf.any _⟩
  | true =>
    by_cases hn : 64 ≤ l.length
    · have e1 : sendE y l = 4 := by simp [sendE, hr, hn]
      have e2 : sendL y l = l := by simp [sendL, hr, hn]
      rw [e1, e2]
      refine (refSend_full r l K y w h hr hn).mono ?_
      rintro e w' ⟨rfl, hf⟩
      exact ⟨rfl, h.fr0 hf, hf.any _⟩
    · have e1 : sendE y l = 0 := by simp [sendE, hr, hn]
      have e2 : sendL y l = l ++ [y] := by simp [sendL, hr, hn]
      rw [e1, e2]
      exact refSend_room r l K y w h hr (by omega)
end Go.Proofs.Ytegogggemmcgdaa
