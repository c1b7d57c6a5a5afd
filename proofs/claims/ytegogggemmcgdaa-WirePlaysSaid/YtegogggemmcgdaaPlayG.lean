/- WirePlays: do, Take. -/
import Derived.Test.YtegogggemmcgdaaPlayF
namespace Go.Proofs.Ytegogggemmcgdaa
open Go Go.RowKit Go.Proofs

theorem takeR_len (l : List Msg) (C : Cuts) (i : Int) (h : l.length ≤ 64) : (takeR l C i).2.2.length ≤ 64 := by
  rcases takeR_cases l C i with ⟨k, x, _, e⟩ | ⟨e, _, e2⟩
  · rw [e]; simp only [List.length_eraseIdx]; split <;> omega
  · rw [e2]; exact h
set_option maxRecDepth 100000 in
set_option maxHeartbeats 2000000 in
theorem do_take (p m r : Nat) (l : List Msg) (C : Cuts) (K : List (Int × Int)) (y : Msg) (ii jj : Int) (w : World) (h : PSt p m r l C K w) :
    Calls Try.prog 41 #[.pointer (some ⟨p, 0, none⟩), .pointer (some ⟨r, 0, none⟩), (AAct.mk 4 y ii jj).val] w (DoPost p m r K w) := by
  have H := Lib.hid h
  have np : w.heap.size ≠ p := by have := h.net.lt; omega
  have nm : w.heap.size ≠ m := by have := h.net.ltm; omega
  have nr : w.heap.size ≠ r := by have := h.ref.lt; omega
  clear h
  obtain ⟨z, hz⟩ : ∃ z, z = takeR l C ii := ⟨_, rfl⟩
  obtain ⟨x, e0, l'⟩ := z
  have hz2 : refTakeR l K ii = (x, e0, l') := by rw [hz, H.out.sync.takeR]
  have hl := takeR_len l C ii H.out.few
  rw [← hz] at hl
  have HZ := Lib.hid hz.symm
  have HZ2 := Lib.hid hz2
  have HL := Lib.hid hl
  clear hz hz2 hl
  have heq := msg_eql
  have hgu : ∀ (w : World) (a b : Operand) (u v : Msg), (eqGuard .eql 30 a b u.val v.val).run Try.prog w = .ok () w := fun w a b u v => run_eqGuard_agg w .eql _ a b _ _ refMsg_guard
  have F2 := Lib.hid ((Fr.refl No w).alloc (Obj.cells (AAct.mk 4 y ii jj).vals.toArray 42))
  have B2 := Blk.new w 42 (AAct.mk 4 y ii jj).vals
  have HB2 := Lib.hid B2
  clear B2
  go_enter Try.func41, Try.ntmps41
  go_wp2_with (first
    | (go_at_call 20; have cs := take_any p m l C ii _ (H.out.net.fr0 F2.out) (by have := H.out.few; omega); rw [HZ.out] at cs; refine cs.mono ?_; rintro e w3 ⟨rfl, hn3, hf3⟩
       have bx := HB2.out.fr hf3 np
       have b9 := bx.cell 9
       have b10 := bx.lt
       simp only [List.getElem?_cons_zero, List.getElem?_cons_succ] at b9
       have N3 := Lib.hid hn3
       have F3 := Lib.hid hf3
       have R3 := Lib.hid ((H.out.ref.fr0 F2.out).frp (H.out.net.fr0 F2.out) hf3)
       have r3 := R3.out.lt
       clear hn3 hf3 cs bx)
    | (go_at_call 76; have cs := refTake_any r l K ii _ (R3.out.fr0 ((Fr.refl No w3).alloc (Obj.cells x.vals.toArray 28))) (by have := H.out.few; omega) (by have := H.out.fewK; omega); rw [HZ2.out] at cs; refine cs.mono ?_; rintro e w4 ⟨rfl, hr4, hf4⟩
       have bm := (Blk.new w3 28 x.vals).fr hf4 (fun e => by omega)
       obtain ⟨q0, q1, q2, q3, q4, q5, q6, q7⟩ := bm.cells8
       have bml := bm.lt
       have R4 := Lib.hid hr4
       have F4 := Lib.hid hf4
       clear cs bm hr4 hf4))
  refine wp_region_o [(0, 1), (2, 1), (1, 2), (3, 0), (4, 0), (5, 0), (6, 0), (7, 0), (8, 0), (9, 0)] (by kernel_rfl) (by kernel_rfl) ?_
  repeat (first
    | (apply wpO_pure rfl rfl; (focus (intro w'; go_simp; (try rfl); done)); try simp only [Act.put, List.setIfInBounds_toArray, List.set_cons_zero, List.set_cons_succ])
    | (apply wpO_read rfl rfl; (focus (intro w' hf' hs'; (try simp only [World.size_drew, World.cell?_drew, World.size_alloc, World.size_setCell] at hs'); go_simp; (try rfl); done)); try simp only [Act.put, List.setIfInBounds_toArray, List.set_cons_zero, List.set_cons_succ])
    | (apply wpO_skip (by decide) rfl rfl; try simp only [Act.put, List.setIfInBounds_toArray, List.set_cons_zero, List.set_cons_succ]))
  refine wpO_loudE rfl fun K' hK => ?_
  go_simp
  refine (taken_any x _).mono ?_
  rintro e w5 ⟨rfl, hf5⟩
  refine hK _ _ ⟨hf5, ?_⟩
  clear hK K'
  try simp only [Act.put, List.setIfInBounds_toArray, List.set_cons_zero, List.set_cons_succ]
  repeat (first
    | (apply wpO_pure rfl rfl; (focus (intro w'; go_simp; (try rfl); done)); try simp only [Act.put, List.setIfInBounds_toArray, List.set_cons_zero, List.set_cons_succ])
    | (apply wpO_read rfl rfl; (focus (intro w' hf' hs'; (try simp only [World.size_drew, World.cell?_drew, World.size_alloc, World.size_setCell] at hs'); go_simp; (try rfl); done)); try simp only [Act.put, List.setIfInBounds_toArray, List.set_cons_zero, List.set_cons_succ])
    | (apply wpO_skip (by decide) rfl rfl; try simp only [Act.put, List.setIfInBounds_toArray, List.set_cons_zero, List.set_cons_succ]))
  refine wpO_nil ?_
  go_wp2
  go_ret
  have A3 : Fr No w3 (w3.alloc (Obj.cells x.vals.toArray 28)) := (Fr.refl No w3).alloc _
  have A5 : Fr No w4 w5 := ((Fr.refl No w4).alloc (Obj.cells x.vals.toArray 30)).drew.trans hf5
  exact ⟨by simp, (((F2.out.any _).trans (F3.out.mono (fun _ _ e => .inl e))).trans ((A3.any _).trans (F4.out.mono (fun _ _ e => .inr (.inr e))))).trans (A5.any _), l', C, K,
    ⟨((N3.out.fr0 A3).frr (R3.out.fr0 A3) F4.out).fr0 A5, R4.out.fr0 A5, H.out.sync, HL.out, H.out.fewK⟩, by omega⟩
end Go.Proofs.Ytegogggemmcgdaa
