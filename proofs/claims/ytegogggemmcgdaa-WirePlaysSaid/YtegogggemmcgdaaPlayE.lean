/- WirePlays: do. -/
import Derived.Test.YtegogggemmcgdaaPlayD
namespace Go.Proofs.Ytegogggemmcgdaa
open Go Go.RowKit Go.Proofs

def DoPost (p m r : Nat) (K : List (Int × Int)) (w : World) (e : Ending) (w' : World) : Prop :=
  e = .returned (.bool true) ∧ Fr (Touch p m r) w w' ∧ ∃ l' C' K', PSt p m r l' C' K' w' ∧ K'.length ≤ K.length + 1
set_option maxRecDepth 100000 in
set_option maxHeartbeats 2000000 in
theorem do_send0 (p m r : Nat) (l : List Msg) (C : Cuts) (K : List (Int × Int)) (y : Msg) (ii jj : Int) (w : World) (h : PSt p m r l C K w) :
    Calls Try.prog 41 #[.pointer (some ⟨p, 0, none⟩), .pointer (some ⟨r, 0, none⟩), (AAct.mk 0 y ii jj).val] w (DoPost p m r K w) := by
  have H := Lib.hid h
  have np : w.heap.size ≠ p := by have := h.net.lt; omega
  have nm : w.heap.size ≠ m := by have := h.net.ltm; omega
  clear h
  go_enter Try.func41, Try.ntmps41
  go_wp2
  refine OS.wp_region_o (fun i => i = p ∨ i = m) [(0, 0), (1, 0), (5, 0), (6, 0), (2, 1), (7, 1), (3, 2), (4, 2), (8, 3), (9, 0), (10, 0)] (by kernel_rfl) (by kernel_rfl) ?_
  repeat (first
    | (apply OS.wpO_pure rfl rfl; (focus (intro w'; go_simp; (try rfl); done)); try simp only [Act.put, List.setIfInBounds_toArray, List.set_cons_zero, List.set_cons_succ])
    | (apply OS.wpO_read rfl rfl; (focus (intro w' hf' hs'; (try simp only [World.size_drew, World.cell?_drew, World.size_alloc, World.size_setCell, not_false_eq_true, forall_const] at hs'); go_simp; (try rfl); done)); try simp only [Act.put, List.setIfInBounds_toArray, List.set_cons_zero, List.set_cons_succ])
    | (apply OS.wpO_skip (by decide) rfl rfl; try simp only [Act.put, List.setIfInBounds_toArray, List.set_cons_zero, List.set_cons_succ]))
  refine OS.wpO_loudE rfl fun K' hK => ?_
  go_simp
  refine (given_any y _).mono ?_
  rintro e w2 ⟨rfl, hf2⟩
  refine hK _ _ ⟨hf2.any _, ?_⟩
  clear hK K'
  try simp only [Act.put, List.setIfInBounds_toArray, List.set_cons_zero, List.set_cons_succ]
  have F2 := ((Fr.refl No w).alloc (Obj.cells (AAct.mk 0 y ii jj).vals.toArray 42)).drew.trans hf2
  refine OS.wpO_loudE rfl fun K' hK => ?_
  go_simp
  refine (send_any p m l C y _ (H.out.net.fr0 F2)).mono ?_
  rintro e w3 ⟨rfl, hn3, hf3⟩
  refine hK _ _ ⟨hf3.mono (fun _ _ e => .inl e), ?_⟩
  clear hK K'
  try simp only [Act.put, List.setIfInBounds_toArray, List.set_cons_zero, List.set_cons_succ]
  refine OS.wpO_loud rfl fun K' hK => ?_
  go_simp
  refine (refSend_any r l K y _ ((H.out.ref.fr0 F2).frp (H.out.net.fr0 F2) hf3)).mono ?_
  rintro e w4 ⟨rfl, hr4, hf4⟩
  refine hK _ _ ?_
  clear hK K'
  try simp only [Act.put, List.setIfInBounds_toArray, List.set_cons_zero, List.set_cons_succ]
  repeat (first
    | (apply OS.wpO_pure rfl rfl; (focus (intro w'; go_simp; (try rfl); done)); try simp only [Act.put, List.setIfInBounds_toArray, List.set_cons_zero, List.set_cons_succ])
    | (apply OS.wpO_read rfl rfl; (focus (intro w' hf' hs'; (try simp only [World.size_drew, World.cell?_drew, World.size_alloc, World.size_setCell, not_false_eq_true, forall_const] at hs'); go_simp; (try rfl); done)); try simp only [Act.put, List.setIfInBounds_toArray, List.set_cons_zero, List.set_cons_succ])
    | (apply OS.wpO_skip (by decide) rfl rfl; try simp only [Act.put, List.setIfInBounds_toArray, List.set_cons_zero, List.set_cons_succ]))
  refine OS.wpO_nil ?_
  go_wp2
  go_ret
  have hs : (sendL y l).length ≤ 64 := by
    have := H.out.few
    unfold sendL
    split
    · split
      · omega
      · simp; omega
    · omega
  exact ⟨by simp, ((F2.any _).trans (hf3.mono (fun _ _ e => .inl e))).trans (hf4.mono (fun _ _ e => .inr (.inr e))), sendL y l, C, K, ⟨hn3.frr ((H.out.ref.fr0 F2).frp (H.out.net.fr0 F2) hf3) hf4, hr4, H.out.sync, hs, H.out.fewK⟩, by omega⟩
set_option maxRecDepth 100000 in
set_option maxHeartbeats 2000000 in
theorem do_send1 (p m r : Nat) (l : List Msg) (C : Cuts) (K : List (Int × Int)) (y : Msg) (ii jj : Int) (w : World) (h : PSt p m r l C K w) :
    Calls Try.prog 41 #[.pointer (some ⟨p, 0, none⟩), .pointer (some ⟨r, 0, none⟩), (AAct.mk 1 y ii jj).val] w (DoPost p m r K w) := by
  have H := Lib.hid h
  have np : w.heap.size ≠ p := by have := h.net.lt; omega
  have nm : w.heap.size ≠ m := by have := h.net.ltm; omega
  clear h
  go_enter Try.func41, Try.ntmps41
  go_wp2
  refine OS.wp_region_o (fun i => i = p ∨ i = m) [(0, 0), (1, 0), (5, 0), (6, 0), (2, 1), (7, 1), (3, 2), (4, 2), (8, 3), (9, 0), (10, 0)] (by kernel_rfl) (by kernel_rfl) ?_
  repeat (first
    | (apply OS.wpO_pure rfl rfl; (focus (intro w'; go_simp; (try rfl); done)); try simp only [Act.put, List.setIfInBounds_toArray, List.set_cons_zero, List.set_cons_succ])
    | (apply OS.wpO_read rfl rfl; (focus (intro w' hf' hs'; (try simp only [World.size_drew, World.cell?_drew, World.size_alloc, World.size_setCell, not_false_eq_true, forall_const] at hs'); go_simp; (try rfl); done)); try simp only [Act.put, List.setIfInBounds_toArray, List.set_cons_zero, List.set_cons_succ])
    | (apply OS.wpO_skip (by decide) rfl rfl; try simp only [Act.put, List.setIfInBounds_toArray, List.set_cons_zero, List.set_cons_succ]))
  refine OS.wpO_loudE rfl fun K' hK => ?_
  go_simp
  refine (given_any y _).mono ?_
  rintro e w2 ⟨rfl, hf2⟩
  refine hK _ _ ⟨hf2.any _, ?_⟩
  clear hK K'
  try simp only [Act.put, List.setIfInBounds_toArray, List.set_cons_zero, List.set_cons_succ]
  have F2 := ((Fr.refl No w).alloc (Obj.cells (AAct.mk 1 y ii jj).vals.toArray 42)).drew.trans hf2
  refine OS.wpO_loudE rfl fun K' hK => ?_
  go_simp
  refine (send_any p m l C y _ (H.out.net.fr0 F2)).mono ?_
  rintro e w3 ⟨rfl, hn3, hf3⟩
  refine hK _ _ ⟨hf3.mono (fun _ _ e => .inl e), ?_⟩
  clear hK K'
  try simp only [Act.put, List.setIfInBounds_toArray, List.set_cons_zero, List.set_cons_succ]
  refine OS.wpO_loud rfl fun K' hK => ?_
  go_simp
  refine (refSend_any r l K y _ ((H.out.ref.fr0 F2).frp (H.out.net.fr0 F2) hf3)).mono ?_
  rintro e w4 ⟨rfl, hr4, hf4⟩
  refine hK _ _ ?_
  clear hK K'
  try simp only [Act.put, List.setIfInBounds_toArray, List.set_cons_zero, List.set_cons_succ]
  repeat (first
    | (apply OS.wpO_pure rfl rfl; (focus (intro w'; go_simp; (try rfl); done)); try simp only [Act.put, List.setIfInBounds_toArray, List.set_cons_zero, List.set_cons_succ])
    | (apply OS.wpO_read rfl rfl; (focus (intro w' hf' hs'; (try simp only [World.size_drew, World.cell?_drew, World.size_alloc, World.size_setCell, not_false_eq_true, forall_const] at hs'); go_simp; (try rfl); done)); try simp only [Act.put, List.setIfInBounds_toArray, List.set_cons_zero, List.set_cons_succ])
    | (apply OS.wpO_skip (by decide) rfl rfl; try simp only [Act.put, List.setIfInBounds_toArray, List.set_cons_zero, List.set_cons_succ]))
  refine OS.wpO_nil ?_
  go_wp2
  go_ret
  have hs : (sendL y l).length ≤ 64 := by
    have := H.out.few
    unfold sendL
    split
    · split
      · omega
      · simp; omega
    · omega
  exact ⟨by simp, ((F2.any _).trans (hf3.mono (fun _ _ e => .inl e))).trans (hf4.mono (fun _ _ e => .inr (.inr e))), sendL y l, C, K, ⟨hn3.frr ((H.out.ref.fr0 F2).frp (H.out.net.fr0 F2) hf3) hf4, hr4, H.out.sync, hs, H.out.fewK⟩, by omega⟩
set_option maxRecDepth 100000 in
set_option maxHeartbeats 2000000 in
theorem do_send2 (p m r : Nat) (l : List Msg) (C : Cuts) (K : List (Int × Int)) (y : Msg) (ii jj : Int) (w : World) (h : PSt p m r l C K w) :
    Calls Try.prog 41 #[.pointer (some ⟨p, 0, none⟩), .pointer (some ⟨r, 0, none⟩), (AAct.mk 2 y ii jj).val] w (DoPost p m r K w) := by
  have H := Lib.hid h
  have np : w.heap.size ≠ p := by have := h.net.lt; omega
  have nm : w.heap.size ≠ m := by have := h.net.ltm; omega
  clear h
  go_enter Try.func41, Try.ntmps41
  go_wp2
  refine OS.wp_region_o (fun i => i = p ∨ i = m) [(0, 0), (1, 0), (5, 0), (6, 0), (2, 1), (7, 1), (3, 2), (4, 2), (8, 3), (9, 0), (10, 0)] (by kernel_rfl) (by kernel_rfl) ?_
  repeat (first
    | (apply OS.wpO_pure rfl rfl; (focus (intro w'; go_simp; (try rfl); done)); try simp only [Act.put, List.setIfInBounds_toArray, List.set_cons_zero, List.set_cons_succ])
    | (apply OS.wpO_read rfl rfl; (focus (intro w' hf' hs'; (try simp only [World.size_drew, World.cell?_drew, World.size_alloc, World.size_setCell, not_false_eq_true, forall_const] at hs'); go_simp; (try rfl); done)); try simp only [Act.put, List.setIfInBounds_toArray, List.set_cons_zero, List.set_cons_succ])
    | (apply OS.wpO_skip (by decide) rfl rfl; try simp only [Act.put, List.setIfInBounds_toArray, List.set_cons_zero, List.set_cons_succ]))
  refine OS.wpO_loudE rfl fun K' hK => ?_
  go_simp
  refine (given_any y _).mono ?_
  rintro e w2 ⟨rfl, hf2⟩
  refine hK _ _ ⟨hf2.any _, ?_⟩
  clear hK K'
  try simp only [Act.put, List.setIfInBounds_toArray, List.set_cons_zero, List.set_cons_succ]
  have F2 := ((Fr.refl No w).alloc (Obj.cells (AAct.mk 2 y ii jj).vals.toArray 42)).drew.trans hf2
  refine OS.wpO_loudE rfl fun K' hK => ?_
  go_simp
  refine (send_any p m l C y _ (H.out.net.fr0 F2)).mono ?_
  rintro e w3 ⟨rfl, hn3, hf3⟩
  refine hK _ _ ⟨hf3.mono (fun _ _ e => .inl e), ?_⟩
  clear hK K'
  try simp only [Act.put, List.setIfInBounds_toArray, List.set_cons_zero, List.set_cons_succ]
  refine OS.wpO_loud rfl fun K' hK => ?_
  go_simp
  refine (refSend_any r l K y _ ((H.out.ref.fr0 F2).frp (H.out.net.fr0 F2) hf3)).mono ?_
  rintro e w4 ⟨rfl, hr4, hf4⟩
  refine hK _ _ ?_
  clear hK K'
  try simp only [Act.put, List.setIfInBounds_toArray, List.set_cons_zero, List.set_cons_succ]
  repeat (first
    | (apply OS.wpO_pure rfl rfl; (focus (intro w'; go_simp; (try rfl); done)); try simp only [Act.put, List.setIfInBounds_toArray, List.set_cons_zero, List.set_cons_succ])
    | (apply OS.wpO_read rfl rfl; (focus (intro w' hf' hs'; (try simp only [World.size_drew, World.cell?_drew, World.size_alloc, World.size_setCell, not_false_eq_true, forall_const] at hs'); go_simp; (try rfl); done)); try simp only [Act.put, List.setIfInBounds_toArray, List.set_cons_zero, List.set_cons_succ])
    | (apply OS.wpO_skip (by decide) rfl rfl; try simp only [Act.put, List.setIfInBounds_toArray, List.set_cons_zero, List.set_cons_succ]))
  refine OS.wpO_nil ?_
  go_wp2
  go_ret
  have hs : (sendL y l).length ≤ 64 := by
    have := H.out.few
    unfold sendL
    split
    · split
      · omega
      · simp; omega
    · omega
  exact ⟨by simp, ((F2.any _).trans (hf3.mono (fun _ _ e => .inl e))).trans (hf4.mono (fun _ _ e => .inr (.inr e))), sendL y l, C, K, ⟨hn3.frr ((H.out.ref.fr0 F2).frp (H.out.net.fr0 F2) hf3) hf4, hr4, H.out.sync, hs, H.out.fewK⟩, by omega⟩
set_option maxRecDepth 100000 in
set_option maxHeartbeats 2000000 in
theorem do_send3 (p m r : Nat) (l : List Msg) (C : Cuts) (K : List (Int × Int)) (y : Msg) (ii jj : Int) (w : World) (h : PSt p m r l C K w) :
    Calls Try.prog 41 #[.pointer (some ⟨p, 0, none⟩), .pointer (some ⟨r, 0, none⟩), (AAct.mk 3 y ii jj).val] w (DoPost p m r K w) := by
  have H := Lib.hid h
  have np : w.heap.size ≠ p := by have := h.net.lt; omega
  have nm : w.heap.size ≠ m := by have := h.net.ltm; omega
  clear h
  go_enter Try.func41, Try.ntmps41
  go_wp2
  refine OS.wp_region_o (fun i => i = p ∨ i = m) [(0, 0), (1, 0), (5, 0), (6, 0), (2, 1), (7, 1), (3, 2), (4, 2), (8, 3), (9, 0), (10, 0)] (by kernel_rfl) (by kernel_rfl) ?_
  repeat (first
    | (apply OS.wpO_pure rfl rfl; (focus (intro w'; go_simp; (try rfl); done)); try simp only [Act.put, List.setIfInBounds_toArray, List.set_cons_zero, List.set_cons_succ])
    | (apply OS.wpO_read rfl rfl; (focus (intro w' hf' hs'; (try simp only [World.size_drew, World.cell?_drew, World.size_alloc, World.size_setCell, not_false_eq_true, forall_const] at hs'); go_simp; (try rfl); done)); try simp only [Act.put, List.setIfInBounds_toArray, List.set_cons_zero, List.set_cons_succ])
    | (apply OS.wpO_skip (by decide) rfl rfl; try simp only [Act.put, List.setIfInBounds_toArray, List.set_cons_zero, List.set_cons_succ]))
  refine OS.wpO_loudE rfl fun K' hK => ?_
  go_simp
  refine (given_any y _).mono ?_
  rintro e w2 ⟨rfl, hf2⟩
  refine hK _ _ ⟨hf2.any _, ?_⟩
  clear hK K'
  try simp only [Act.put, List.setIfInBounds_toArray, List.set_cons_zero, List.set_cons_succ]
  have F2 := ((Fr.refl No w).alloc (Obj.cells (AAct.mk 3 y ii jj).vals.toArray 42)).drew.trans hf2
  refine OS.wpO_loudE rfl fun K' hK => ?_
  go_simp
  refine (send_any p m l C y _ (H.out.net.fr0 F2)).mono ?_
  rintro e w3 ⟨rfl, hn3, hf3⟩
  refine hK _ _ ⟨hf3.mono (fun _ _ e => .inl e), ?_⟩
  clear hK K'
  try simp only [Act.put, List.setIfInBounds_toArray, List.set_cons_zero, List.set_cons_succ]
  refine OS.wpO_loud rfl fun K' hK => ?_
  go_simp
  refine (refSend_any r l K y _ ((H.out.ref.fr0 F2).frp (H.out.net.fr0 F2) hf3)).mono ?_
  rintro e w4 ⟨rfl, hr4, hf4⟩
  refine hK _ _ ?_
  clear hK K'
  try simp only [Act.put, List.setIfInBounds_toArray, List.set_cons_zero, List.set_cons_succ]
  repeat (first
    | (apply OS.wpO_pure rfl rfl; (focus (intro w'; go_simp; (try rfl); done)); try simp only [Act.put, List.setIfInBounds_toArray, List.set_cons_zero, List.set_cons_succ])
    | (apply OS.wpO_read rfl rfl; (focus (intro w' hf' hs'; (try simp only [World.size_drew, World.cell?_drew, World.size_alloc, World.size_setCell, not_false_eq_true, forall_const] at hs'); go_simp; (try rfl); done)); try simp only [Act.put, List.setIfInBounds_toArray, List.set_cons_zero, List.set_cons_succ])
    | (apply OS.wpO_skip (by decide) rfl rfl; try simp only [Act.put, List.setIfInBounds_toArray, List.set_cons_zero, List.set_cons_succ]))
  refine OS.wpO_nil ?_
  go_wp2
  go_ret
  have hs : (sendL y l).length ≤ 64 := by
    have := H.out.few
    unfold sendL
    split
    · split
      · omega
      · simp; omega
    · omega
  exact ⟨by simp, ((F2.any _).trans (hf3.mono (fun _ _ e => .inl e))).trans (hf4.mono (fun _ _ e => .inr (.inr e))), sendL y l, C, K, ⟨hn3.frr ((H.out.ref.fr0 F2).frp (H.out.net.fr0 F2) hf3) hf4, hr4, H.out.sync, hs, H.out.fewK⟩, by omega⟩
end Go.Proofs.Ytegogggemmcgdaa
