/- WirePlays: do, Lose, Twice, Cut, Join. -/
import Derived.Test.YtegogggemmcgdaaPlayE
namespace Go.Proofs.Ytegogggemmcgdaa
open Go Go.RowKit Go.Proofs

set_option maxRecDepth 100000 in
set_option maxHeartbeats 2000000 in
theorem do_lose (p m r : Nat) (l : List Msg) (C : Cuts) (K : List (Int × Int)) (y : Msg) (ii jj : Int) (w : World) (h : PSt p m r l C K w) :
    Calls Try.prog 41 #[.pointer (some ⟨p, 0, none⟩), .pointer (some ⟨r, 0, none⟩), (AAct.mk 5 y ii jj).val] w (DoPost p m r K w) := by
  have hl : (if inL ii l.length then l.eraseIdx ii.toNat else l).length ≤ 64 := by
    have := h.few
    split
    · rw [List.length_eraseIdx]; split <;> omega
    · omega
  have HL := Lib.hid hl
  clear hl
  have H := Lib.hid h
  have np : w.heap.size ≠ p := by have := h.net.lt; omega
  have nm : w.heap.size ≠ m := by have := h.net.ltm; omega
  clear h
  go_enter Try.func41, Try.ntmps41
  go_wp2
  refine OS.wp_region_o (fun i => i = p ∨ i = m) [(0, 0), (1, 0), (4, 0), (5, 0), (2, 1), (6, 1), (3, 2), (7, 3), (8, 0), (9, 0)] (by kernel_rfl) (by kernel_rfl) ?_
  repeat (first
    | (apply OS.wpO_pure rfl rfl; (focus (intro w'; go_simp; (try rfl); done)); try simp only [Act.put, List.setIfInBounds_toArray, List.set_cons_zero, List.set_cons_succ])
    | (apply OS.wpO_read rfl rfl; (focus (intro w' hf' hs'; (try simp only [World.size_drew, World.cell?_drew, World.size_alloc, World.size_setCell, not_false_eq_true, forall_const] at hs'); go_simp; (try rfl); done)); try simp only [Act.put, List.setIfInBounds_toArray, List.set_cons_zero, List.set_cons_succ])
    | (apply OS.wpO_skip (by decide) rfl rfl; try simp only [Act.put, List.setIfInBounds_toArray, List.set_cons_zero, List.set_cons_succ]))
  have F2 := ((Fr.refl No w).alloc (Obj.cells (AAct.mk 5 y ii jj).vals.toArray 42)).drew
  refine OS.wpO_loudE rfl fun K' hK => ?_
  go_simp
  refine (lose_any p m l C ii _ (H.out.net.fr0 F2) (by have := H.out.few; omega)).mono ?_
  rintro e w3 ⟨rfl, hn3, hf3⟩
  refine hK _ _ ⟨hf3.mono (fun _ _ e => .inl e), ?_⟩
  clear hK K'
  try simp only [Act.put, List.setIfInBounds_toArray, List.set_cons_zero, List.set_cons_succ]
  refine OS.wpO_loud rfl fun K' hK => ?_
  go_simp
  refine (refLose_any r l K ii _ ((H.out.ref.fr0 F2).frp (H.out.net.fr0 F2) hf3) (by have := H.out.few; omega)).mono ?_
  rintro e w4 ⟨rfl, hr4, hf4⟩
  refine hK _ _ ?_
  clear hK K'
  try simp only [Act.put, List.setIfInBounds_toArray, List.set_cons_zero, List.set_cons_succ]
  repeat (first
    | (apply OS.wpO_pure rfl rfl; (focus (intro w'; go_simp; (try rfl); done)); try simp only [Act.put, List.setIfInBounds_toArray, List.set_cons_zero, List.set_cons_succ])
    | (apply OS.wpO_read rfl rfl; (focus (intro w' hf' hs'; (try simp only [World.size_drew, World.cell?_drew, World.size_alloc, World.size_setCell, not_false_eq_true, forall_const] at hs'); go_simp; (try rfl); done)); try simp only [Act.put, List.setIfInBounds_toArray, List.set_cons_zero, List.set_cons_succ])
    | (apply OS.wpO_skip (by decide) rfl rfl; try simp only [Act.put, List.setIfInBounds_toArray, List.set_cons_zero, List.set_cons_succ]))
  refine OS.wpO_nil ?_
  go_wp2
  go_ret
  exact ⟨by simp, ((F2.any _).trans (hf3.mono (fun _ _ e => .inl e))).trans (hf4.mono (fun _ _ e => .inr (.inr e))), _, C, K, ⟨hn3.frr ((H.out.ref.fr0 F2).frp (H.out.net.fr0 F2) hf3) hf4, hr4, H.out.sync, HL.out, H.out.fewK⟩, by omega⟩
set_option maxRecDepth 100000 in
set_option maxHeartbeats 2000000 in
theorem do_twice (p m r : Nat) (l : List Msg) (C : Cuts) (K : List (Int × Int)) (y : Msg) (ii jj : Int) (w : World) (h : PSt p m r l C K w) :
    Calls Try.prog 41 #[.pointer (some ⟨p, 0, none⟩), .pointer (some ⟨r, 0, none⟩), (AAct.mk 6 y ii jj).val] w (DoPost p m r K w) := by
  have hl : (twiceL l ii).length ≤ 64 := by
    have := h.few
    unfold twiceL
    split
    · split
      · omega
      · split
        · simp; omega
        · omega
    · omega
  have HL := Lib.hid hl
  clear hl
  have H := Lib.hid h
  have np : w.heap.size ≠ p := by have := h.net.lt; omega
  have nm : w.heap.size ≠ m := by have := h.net.ltm; omega
  clear h
  go_enter Try.func41, Try.ntmps41
  go_wp2
  refine OS.wp_region_o (fun i => i = p ∨ i = m) [(0, 0), (1, 0), (4, 0), (5, 0), (2, 1), (6, 1), (3, 2), (7, 3), (8, 0), (9, 0)] (by kernel_rfl) (by kernel_rfl) ?_
  repeat (first
    | (apply OS.wpO_pure rfl rfl; (focus (intro w'; go_simp; (try rfl); done)); try simp only [Act.put, List.setIfInBounds_toArray, List.set_cons_zero, List.set_cons_succ])
    | (apply OS.wpO_read rfl rfl; (focus (intro w' hf' hs'; (try simp only [World.size_drew, World.cell?_drew, World.size_alloc, World.size_setCell, not_false_eq_true, forall_const] at hs'); go_simp; (try rfl); done)); try simp only [Act.put, List.setIfInBounds_toArray, List.set_cons_zero, List.set_cons_succ])
    | (apply OS.wpO_skip (by decide) rfl rfl; try simp only [Act.put, List.setIfInBounds_toArray, List.set_cons_zero, List.set_cons_succ]))
  have F2 := ((Fr.refl No w).alloc (Obj.cells (AAct.mk 6 y ii jj).vals.toArray 42)).drew
  refine OS.wpO_loudE rfl fun K' hK => ?_
  go_simp
  refine (twice_any p m l C ii _ (H.out.net.fr0 F2)).mono ?_
  rintro e w3 ⟨rfl, hn3, hf3⟩
  refine hK _ _ ⟨hf3.mono (fun _ _ e => .inl e), ?_⟩
  clear hK K'
  try simp only [Act.put, List.setIfInBounds_toArray, List.set_cons_zero, List.set_cons_succ]
  refine OS.wpO_loud rfl fun K' hK => ?_
  go_simp
  refine (refTwice_any r l K ii _ ((H.out.ref.fr0 F2).frp (H.out.net.fr0 F2) hf3)).mono ?_
  rintro e w4 ⟨rfl, hr4, hf4⟩
  refine hK _ _ ?_
  clear hK K'
  try simp only [Act.put, List.setIfInBounds_toArray, List.set_cons_zero, List.set_cons_succ]
  repeat (first
    | (apply OS.wpO_pure rfl rfl; (focus (intro w'; go_simp; (try rfl); done)); try simp only [Act.put, List.setIfInBounds_toArray, List.set_cons_zero, List.set_cons_succ])
    | (apply OS.wpO_read rfl rfl; (focus (intro w' hf' hs'; (try simp only [World.size_drew, World.cell?_drew, World.size_alloc, World.size_setCell, not_false_eq_true, forall_const] at hs'); go_simp; (try rfl); done)); try simp only [Act.put, List.setIfInBounds_toArray, List.set_cons_zero, List.set_cons_succ])
    | (apply OS.wpO_skip (by decide) rfl rfl; try simp only [Act.put, List.setIfInBounds_toArray, List.set_cons_zero, List.set_cons_succ]))
  refine OS.wpO_nil ?_
  go_wp2
  go_ret
  exact ⟨by simp, ((F2.any _).trans (hf3.mono (fun _ _ e => .inl e))).trans (hf4.mono (fun _ _ e => .inr (.inr e))), _, C, K, ⟨hn3.frr ((H.out.ref.fr0 F2).frp (H.out.net.fr0 F2) hf3) hf4, hr4, H.out.sync, HL.out, H.out.fewK⟩, by omega⟩
set_option maxRecDepth 100000 in
set_option maxHeartbeats 2000000 in
theorem do_cut (p m r : Nat) (l : List Msg) (C : Cuts) (K : List (Int × Int)) (y : Msg) (ii jj : Int) (w : World) (h : PSt p m r l C K w) (hk : K.length ≤ 800) :
    Calls Try.prog 41 #[.pointer (some ⟨p, 0, none⟩), .pointer (some ⟨r, 0, none⟩), (AAct.mk 7 y ii jj).val] w (DoPost p m r K w) := by
  have hkl := Lib.hid (cutK_len K ii jj)
  have HKK := Lib.hid hk
  clear hk
  have H := Lib.hid h
  have np : w.heap.size ≠ p := by have := h.net.lt; omega
  have nm : w.heap.size ≠ m := by have := h.net.ltm; omega
  clear h
  go_enter Try.func41, Try.ntmps41
  go_wp2
  refine OS.wp_region_o (fun i => i = p ∨ i = m) [(0, 0), (1, 0), (3, 0), (6, 0), (7, 0), (9, 0), (2, 1), (4, 1), (8, 1), (10, 1), (5, 2), (11, 3), (12, 0), (13, 0)] (by kernel_rfl) (by kernel_rfl) ?_
  repeat (first
    | (apply OS.wpO_pure rfl rfl; (focus (intro w'; go_simp; (try rfl); done)); try simp only [Act.put, List.setIfInBounds_toArray, List.set_cons_zero, List.set_cons_succ])
    | (apply OS.wpO_read rfl rfl; (focus (intro w' hf' hs'; (try simp only [World.size_drew, World.cell?_drew, World.size_alloc, World.size_setCell, not_false_eq_true, forall_const] at hs'); go_simp; (try rfl); done)); try simp only [Act.put, List.setIfInBounds_toArray, List.set_cons_zero, List.set_cons_succ])
    | (apply OS.wpO_skip (by decide) rfl rfl; try simp only [Act.put, List.setIfInBounds_toArray, List.set_cons_zero, List.set_cons_succ]))
  have F2 := ((Fr.refl No w).alloc (Obj.cells (AAct.mk 7 y ii jj).vals.toArray 42)).drew
  refine OS.wpO_loudE rfl fun K' hK => ?_
  go_simp
  refine (cut_any p m l C ii jj _ (H.out.net.fr0 F2)).mono ?_
  rintro e w3 ⟨rfl, hn3, hf3⟩
  refine hK _ _ ⟨hf3.mono (fun _ _ e => .inr e), ?_⟩
  clear hK K'
  try simp only [Act.put, List.setIfInBounds_toArray, List.set_cons_zero, List.set_cons_succ]
  refine OS.wpO_loud rfl fun K' hK => ?_
  go_simp
  refine (refCut_any r l K ii jj _ ((H.out.ref.fr0 F2).frm (H.out.net.fr0 F2) hf3) (by have := HKK.out; omega)).mono ?_
  rintro e w4 ⟨rfl, hr4, hf4⟩
  refine hK _ _ ?_
  clear hK K'
  try simp only [Act.put, List.setIfInBounds_toArray, List.set_cons_zero, List.set_cons_succ]
  repeat (first
    | (apply OS.wpO_pure rfl rfl; (focus (intro w'; go_simp; (try rfl); done)); try simp only [Act.put, List.setIfInBounds_toArray, List.set_cons_zero, List.set_cons_succ])
    | (apply OS.wpO_read rfl rfl; (focus (intro w' hf' hs'; (try simp only [World.size_drew, World.cell?_drew, World.size_alloc, World.size_setCell, not_false_eq_true, forall_const] at hs'); go_simp; (try rfl); done)); try simp only [Act.put, List.setIfInBounds_toArray, List.set_cons_zero, List.set_cons_succ])
    | (apply OS.wpO_skip (by decide) rfl rfl; try simp only [Act.put, List.setIfInBounds_toArray, List.set_cons_zero, List.set_cons_succ]))
  refine OS.wpO_nil ?_
  go_wp2
  go_ret
  exact ⟨by simp, ((F2.any _).trans (hf3.mono (fun _ _ e => .inr (.inl e)))).trans (hf4.mono (fun _ _ e => .inr (.inr e))), l, _, _, ⟨hn3.frr ((H.out.ref.fr0 F2).frm (H.out.net.fr0 F2) hf3) hf4, hr4, H.out.sync.cut ii jj, H.out.few, by have := hkl.out; have := HKK.out; omega⟩, by have := hkl.out; omega⟩
set_option maxRecDepth 100000 in
set_option maxHeartbeats 2000000 in
theorem do_join (p m r : Nat) (l : List Msg) (C : Cuts) (K : List (Int × Int)) (y : Msg) (ii jj : Int) (w : World) (h : PSt p m r l C K w) (hk : K.length ≤ 800) :
    Calls Try.prog 41 #[.pointer (some ⟨p, 0, none⟩), .pointer (some ⟨r, 0, none⟩), (AAct.mk 8 y ii jj).val] w (DoPost p m r K w) := by
  have hkl := Lib.hid (joinK_len K ii jj)
  have HKK := Lib.hid hk
  clear hk
  have H := Lib.hid h
  have np : w.heap.size ≠ p := by have := h.net.lt; omega
  have nm : w.heap.size ≠ m := by have := h.net.ltm; omega
  clear h
  go_enter Try.func41, Try.ntmps41
  go_wp2
  refine OS.wp_region_o (fun i => i = p ∨ i = m) [(0, 0), (1, 0), (3, 0), (6, 0), (7, 0), (9, 0), (2, 1), (4, 1), (8, 1), (10, 1), (5, 2), (11, 3), (12, 0), (13, 0)] (by kernel_rfl) (by kernel_rfl) ?_
  repeat (first
    | (apply OS.wpO_pure rfl rfl; (focus (intro w'; go_simp; (try rfl); done)); try simp only [Act.put, List.setIfInBounds_toArray, List.set_cons_zero, List.set_cons_succ])
    | (apply OS.wpO_read rfl rfl; (focus (intro w' hf' hs'; (try simp only [World.size_drew, World.cell?_drew, World.size_alloc, World.size_setCell, not_false_eq_true, forall_const] at hs'); go_simp; (try rfl); done)); try simp only [Act.put, List.setIfInBounds_toArray, List.set_cons_zero, List.set_cons_succ])
    | (apply OS.wpO_skip (by decide) rfl rfl; try simp only [Act.put, List.setIfInBounds_toArray, List.set_cons_zero, List.set_cons_succ]))
  have F2 := ((Fr.refl No w).alloc (Obj.cells (AAct.mk 8 y ii jj).vals.toArray 42)).drew
  refine OS.wpO_loudE rfl fun K' hK => ?_
  go_simp
  refine (join_any p m l C ii jj _ (H.out.net.fr0 F2)).mono ?_
  rintro e w3 ⟨rfl, hn3, hf3⟩
  refine hK _ _ ⟨hf3.mono (fun _ _ e => .inr e), ?_⟩
  clear hK K'
  try simp only [Act.put, List.setIfInBounds_toArray, List.set_cons_zero, List.set_cons_succ]
  refine OS.wpO_loud rfl fun K' hK => ?_
  go_simp
  refine (refJoin_any r l K ii jj _ ((H.out.ref.fr0 F2).frm (H.out.net.fr0 F2) hf3) (by have := HKK.out; omega)).mono ?_
  rintro e w4 ⟨rfl, hr4, hf4⟩
  refine hK _ _ ?_
  clear hK K'
  try simp only [Act.put, List.setIfInBounds_toArray, List.set_cons_zero, List.set_cons_succ]
  repeat (first
    | (apply OS.wpO_pure rfl rfl; (focus (intro w'; go_simp; (try rfl); done)); try simp only [Act.put, List.setIfInBounds_toArray, List.set_cons_zero, List.set_cons_succ])
    | (apply OS.wpO_read rfl rfl; (focus (intro w' hf' hs'; (try simp only [World.size_drew, World.cell?_drew, World.size_alloc, World.size_setCell, not_false_eq_true, forall_const] at hs'); go_simp; (try rfl); done)); try simp only [Act.put, List.setIfInBounds_toArray, List.set_cons_zero, List.set_cons_succ])
    | (apply OS.wpO_skip (by decide) rfl rfl; try simp only [Act.put, List.setIfInBounds_toArray, List.set_cons_zero, List.set_cons_succ]))
  refine OS.wpO_nil ?_
  go_wp2
  go_ret
  exact ⟨by simp, ((F2.any _).trans (hf3.mono (fun _ _ e => .inr (.inl e)))).trans (hf4.mono (fun _ _ e => .inr (.inr e))), l, _, _, ⟨hn3.frr ((H.out.ref.fr0 F2).frm (H.out.net.fr0 F2) hf3) hf4, hr4, H.out.sync.join ii jj, H.out.few, by have := hkl.out; have := HKK.out; omega⟩, by have := hkl.out; omega⟩
end Go.Proofs.Ytegogggemmcgdaa
