/- ref.Net: Twice. -/
import Derived.Test.YtegogggemmcgdaaRefE
namespace Go.Proofs.Ytegogggemmcgdaa
open Go Go.RowKit Go.Proofs

theorem refTwice_bad (r : Nat) (l : List Msg) (K : List (Int × Int)) (i : Int) (w : World) (h : RefAt w r l K) (hi : inL i l.length = false) :
    Calls Try.prog 78 #[.pointer (some ⟨r, 0, none⟩), .int .i64 i] w fun e w' => e = .returned (.int .i64 30) ∧ Fr No w w' := by
  obtain ⟨A, c, A2, c2, hB, hS, hc, hS2, hc2⟩ := h
  have n0 := hB.cell 0
  simp only [List.getElem?_cons_zero] at n0
  simp only [inL, Bool.and_eq_false_iff, decide_eq_false_iff_not] at hi
  clear hB hS hS2
  by_cases h0 : i < 0
  · clear hi
    go_enter Try.func78, Try.ntmps78
    go_wp2
    go_ret
    exact ⟨rfl, Fr.refl _ _⟩
  · have h1 : (l.length : Int) ≤ i := by omega
    clear hi
    go_enter Try.func78, Try.ntmps78
    go_wp2
    go_ret
    exact ⟨rfl, Fr.refl _ _⟩
theorem refTwice_full (r : Nat) (l : List Msg) (K : List (Int × Int)) (k : Nat) (w : World) (h : RefAt w r l K) (hk : k < l.length) (hn : 64 ≤ l.length) :
    Calls Try.prog 78 #[.pointer (some ⟨r, 0, none⟩), .int .i64 k] w fun e w' => e = .returned (.int .i64 4) ∧ Fr No w w' := by
  obtain ⟨A, c, A2, c2, hB, hS, hc, hS2, hc2⟩ := h
  have n0 := hB.cell 0
  simp only [List.getElem?_cons_zero] at n0
  clear hB hS hS2
  have i1 : (0 : Int) ≤ (k : Int) := by omega
  have i2 : (k : Int) < (l.length : Int) := by omega
  have hn' : (64 : Int) ≤ (l.length : Int) := by omega
  go_enter Try.func78, Try.ntmps78
  go_wp2
  go_ret
  exact ⟨rfl, Fr.refl _ _⟩
set_option maxRecDepth 100000 in
set_option maxHeartbeats 2000000 in
theorem refTwice_room (r : Nat) (l : List Msg) (K : List (Int × Int)) (k : Nat) (x : Msg) (w : World) (h : RefAt w r l K) (hx : l[k]? = some x) (hn : l.length < 64) :
    Calls Try.prog 78 #[.pointer (some ⟨r, 0, none⟩), .int .i64 k] w fun e w' => e = .returned (.int .i64 0) ∧ RefAt w' r (l ++ [x]) K ∧ Fr (· = r) w w' := by
  have hk := (List.getElem?_eq_some_iff.1 hx).1
  have hn' : (l.length : Int) < (64 : Int) := by omega
  have hn2 : (0 : Int) ≤ (l.length : Int) := by omega
  have i1 : (0 : Int) ≤ (k : Int) := by omega
  have i2 : (k : Int) < (l.length : Int) := by omega
  obtain ⟨A, c, A2, c2, hB, hS, hc, hS2, hc2⟩ := h
  obtain ⟨b, o, rfl, hb, ⟨m0, m1, m2, m3, m4, m5, m6, m7⟩⟩ := msg_cells hS hx
  have n0 := hB.cell 0
  simp only [List.getElem?_cons_zero] at n0
  have nf := hB.frozen 0
  have rl := hB.lt
  have hn3 : (l.length : Int) ≤ (c : Int) := by omega
  have HB := Lib.hid hB
  have HS := Lib.hid hS
  have HS2 := Lib.hid hS2
  clear hB hS hS2 hx
  obtain ⟨i0, hi0, hz0, hz1, hz2⟩ := info_parts refMsg_info
  go_enter Try.func78, Try.ntmps78
  go_wp2
  refine wp_region_o [(0, 0), (1, 0), (2, 0), (3, 0), (5, 0), (6, 0), (7, 0), (10, 0), (11, 0), (12, 0), (16, 0), (17, 0), (18, 0), (20, 0), (4, 1), (8, 1), (9, 1), (13, 1), (14, 1), (15, 0), (19, 1), (21, 0), (22, 1), (23, 2), (24, 2), (25, 0), (26, 0), (27, 3)] (by kernel_rfl) (by kernel_rfl) ?_
  repeat (first
    | (apply wpO_pure rfl rfl; (focus (intro w'; go_simp; (try rfl); done)); try simp only [Act.put, List.setIfInBounds_toArray, List.set_cons_zero, List.set_cons_succ])
    | (apply wpO_read rfl rfl; (focus (intro w' hf' hs'; (try simp only [World.size_drew, World.cell?_drew, World.size_alloc, World.size_setCell] at hs'); go_simp; (try rfl); done)); try simp only [Act.put, List.setIfInBounds_toArray, List.set_cons_zero, List.set_cons_succ])
    | (apply wpO_skip (by decide) rfl rfl; try simp only [Act.put, List.setIfInBounds_toArray, List.set_cons_zero, List.set_cons_succ]))
  refine wpO_loudE rfl fun K hK => ?_
  go_simp
  refine hK _ _ ⟨by (repeat (first | exact Fr.refl _ _ | assumption | refine Fr.drew ?_ | refine Fr.alloc ?_ _ | refine Fr.drewL ?_)), ?_⟩
  clear hK K
  repeat (first
    | (apply wpO_pure rfl rfl; (focus (intro w'; go_simp; (try rfl); done)); try simp only [Act.put, List.setIfInBounds_toArray, List.set_cons_zero, List.set_cons_succ])
    | (apply wpO_read rfl rfl; (focus (intro w' hf' hs'; (try simp only [World.size_drew, World.cell?_drew, World.size_alloc, World.size_setCell] at hs'); go_simp; (try rfl); done)); try simp only [Act.put, List.setIfInBounds_toArray, List.set_cons_zero, List.set_cons_succ])
    | (apply wpO_skip (by decide) rfl rfl; try simp only [Act.put, List.setIfInBounds_toArray, List.set_cons_zero, List.set_cons_succ]))
  refine wpO_loudE rfl fun K' hK => ?_
  refine step_append_new rfl _ _ 22 rfl 30 i0 _ 8 72 Try.underlying22 hi0 hz0 hz1 hz2 rfl (some ⟨b, o, none⟩) l.length l.length (l.flatMap Msg.vals) rfl (HS.out.alloc _).drew (some ⟨w.heap.size, 0, none⟩) 1 1 30 x.vals rfl (Sl.of_new w 30 8 1 x.vals.toArray x.vals rfl rfl).drew (by omega) (by omega) (by simp only [maxLen]; omega) (by omega) ?_
  intro cap cur g1 g2 g3 g4
  refine hK _ _ ⟨by (repeat (first | exact Fr.refl _ _ | assumption | refine Fr.drew ?_ | refine Fr.alloc ?_ _ | refine Fr.drewL ?_)), ?_⟩
  clear hK K'
  try simp only [Act.put, List.setIfInBounds_toArray, List.set_cons_zero, List.set_cons_succ]
  repeat (first
    | (apply wpO_pure rfl rfl; (focus (intro w'; go_simp; (try rfl); done)); try simp only [Act.put, List.setIfInBounds_toArray, List.set_cons_zero, List.set_cons_succ])
    | (apply wpO_read rfl rfl; (focus (intro w' hf' hs'; (try simp only [World.size_drew, World.cell?_drew, World.size_alloc, World.size_setCell] at hs'); go_simp; (try rfl); done)); try simp only [Act.put, List.setIfInBounds_toArray, List.set_cons_zero, List.set_cons_succ])
    | (apply wpO_skip (by decide) rfl rfl; try simp only [Act.put, List.setIfInBounds_toArray, List.set_cons_zero, List.set_cons_succ]))
  refine wpO_loud rfl fun K' hK => ?_
  go_simp
  refine hK _ _ (wpO_nil ?_)
  clear hK K'
  go_wp2
  go_ret
  have hb2 := ((HB.out.set_ 0 (.slice (some ⟨w.heap.size + 1, 0, none⟩) (l.length + 1) cap)).alloc (Obj.cells x.vals.toArray 30)).alloc (.cells cur 30)
  have hs2 := Sl.of_new ((w.setCell ⟨r, 0, none⟩ (.slice (some ⟨w.heap.size + 1, 0, none⟩) (l.length + 1) cap)).alloc (Obj.cells x.vals.toArray 30)) 30 8 (l.length + 1) cur _ (by rw [← vals_snoc, vals_len]; simp) g4
  have hk2 := ((HS2.out.far HB.out (by decide) (p := ⟨r, 0, none⟩) rfl (.slice (some ⟨w.heap.size + 1, 0, none⟩) (l.length + 1) cap)).alloc (Obj.cells x.vals.toArray 30)).alloc (.cells cur 30)
  refine ⟨rfl, ⟨some ⟨w.heap.size + 1, 0, none⟩, cap, A2, c2, ?_, ?_, ?_, hk2, hc2⟩, ?_⟩
  · simp only [List.length_append, List.length_cons, List.length_nil, Nat.zero_add]
    exact hb2.drew.drew
  · simp only [World.size_alloc, World.size_setCell] at hs2
    simp only [List.length_append, List.length_cons, List.length_nil, Nat.zero_add, vals_snoc]
    exact hs2.drew.drew
  · simpa using g1
  · exact Fr.drew (Fr.drew (Fr.alloc (Fr.alloc (Fr.setCell (Fr.refl (fun j => j = r) w) (p := ⟨r, 0, none⟩) (.inl rfl) _) _) _))
theorem refTwice_any (r : Nat) (l : List Msg) (K : List (Int × Int)) (i : Int) (w : World) (h : RefAt w r l K) :
    Calls Try.prog 78 #[.pointer (some ⟨r, 0, none⟩), .int .i64 i] w fun e w' => e = .returned (.int .i64 (twiceE l i)) ∧ RefAt w' r (twiceL l i) K ∧ Fr (· = r) w w' := by
  cases hi : inL i l.length with
  | false =>
    have e : twiceE l i = 30 := by simp [twiceE, hi]
    have e2 : twiceL l i = l := by simp [twiceL, hi]
    rw [e, e2]
    refine (refTwice_bad r l K i w h hi).mono ?_
    rintro e w' ⟨rfl, hf⟩
    exact ⟨rfl, h.fr0 hf, hf.any _⟩
  | true =>
    have hi' := hi
    simp only [inL, Bool.and_eq_true, decide_eq_true_eq] at hi'
    obtain ⟨k, rfl⟩ := Int.eq_ofNat_of_zero_le hi'.1
    have hk : k < l.length := by omega
    have hx : l[k]? = some l[k] := List.getElem?_eq_getElem hk
    by_cases hn : 64 ≤ l.length
    · have e : twiceE l k = 4 := by simp [twiceE, hi, hn]
      have e2 : twiceL l k = l := by simp [twiceL, hi, hn]
      rw [e, e2]
      refine (refTwice_full r l K k w h hk hn).mono ?_
      rintro e w' ⟨rfl, hf⟩
      exact ⟨rfl, h.fr0 hf, hf.any _⟩
    · have e : twiceE l k = 0 := by simp [twiceE, hi, hn]
      have e2 : twiceL l k = l ++ [l[k]] := by simp [twiceL, hi, hn, hx]
      rw [e, e2]
      exact refTwice_room r l K k _ w h hx (by omega)
end Go.Proofs.Ytegogggemmcgdaa
