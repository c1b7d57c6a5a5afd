/- wire: what the methods of Net do. -/
import Derived.Test.YtegogggemmcgdaaWireK
import Derived.Test.YtegogggemmcgdaaOrd
namespace Go.Proofs.Ytegogggemmcgdaa

abbrev Cuts := List ((Int × Int) × Bool)
def NetAt (w : World) (p m : Nat) (l : List Msg) (C : Cuts) : Prop :=
  ∃ A c, Blk w p 102 [.slice A l.length c, .map (some m)] ∧ Sl w 28 8 A l.length (l.flatMap Msg.vals) ∧ l.length ≤ c ∧ MapAt w m encLink (menc Value.bool C)

section
variable {w w' : World} {p m : Nat} {l : List Msg} {C : Cuts}
theorem NetAt.fr {S : Nat → Prop} (h : NetAt w p m l C) (hf : Fr S w w') (hp : ¬ S p) (hm : ¬ S m) (hS : ∀ (b : Nat) cur fr, w.heap[b]? = some (Obj.cells cur 28 fr) → ¬ S b) : NetAt w' p m l C := by
  obtain ⟨A, c, hB, hS', hc, hM⟩ := h
  exact ⟨A, c, hB.fr hf hp, hS'.fr hf hS, hc, hM.fr hf hm⟩
theorem NetAt.fr0 (h : NetAt w p m l C) (hf : Fr No w w') : NetAt w' p m l C := h.fr hf (fun h => h) (fun h => h) fun _ _ _ _ h => h
theorem NetAt.alloc (h : NetAt w p m l C) (o : Obj) : NetAt (w.alloc o) p m l C := h.fr0 ((Fr.refl _ _).alloc _)
theorem NetAt.drew (h : NetAt w p m l C) : NetAt w.drew p m l C := h
theorem NetAt.lt (h : NetAt w p m l C) : p < w.heap.size := by obtain ⟨A, c, hB, _⟩ := h; exact hB.lt
theorem NetAt.ltm (h : NetAt w p m l C) : m < w.heap.size := by obtain ⟨A, c, _, _, _, hM⟩ := h; exact hM.lt
end

theorem msg_info : (Try.prog.info? 28).map (fun i => (i.zero, i.size, i.bytes)) = some (some (.agg #[.int .i64 0, .int .i64 0, .int .i64 0, .int .i64 0, .int .i64 0, .int .i64 0, .int .i64 0, .string ByteArray.empty]), 8, 72) := by kernel_rfl

theorem vals_len (l : List Msg) : (l.flatMap Msg.vals).length = l.length * 8 := by
  induction l with
  | nil => rfl
  | cons m l ih => simp only [List.flatMap_cons, List.length_append, ih, List.length_cons, List.length_nil]; omega
theorem vals_snoc (l : List Msg) (m : Msg) : (l ++ [m]).flatMap Msg.vals = l.flatMap Msg.vals ++ m.vals := by simp [List.flatMap_append]

set_option maxHeartbeats 400000 in
theorem add_full (p m : Nat) (l : List Msg) (C : Cuts) (msg : Msg) (w : World) (h : NetAt w p m l C) (hn : 64 ≤ l.length) :
    Calls Try.prog 53 #[.pointer (some ⟨p, 0, none⟩), msg.val] w fun e w' => e = .returned (.int .i64 4) ∧ Fr No w w' := by
  obtain ⟨A, c, hB, _, _, _⟩ := h
  have h0 : w.cell? ⟨p, 0, none⟩ = some (.slice A l.length c) := hB.cell 0
  have lg : p < w.heap.size := hB.lt
  have hn' : (64 : Int) ≤ (l.length : Int) := by omega
  clear hB
  go_enter Try.func53, Try.ntmps53
  go_wp2
  go_ret
  exact ⟨rfl, (Fr.refl _ _).alloc _⟩

set_option maxRecDepth 100000 in
set_option maxHeartbeats 1000000 in
theorem add_room (p m : Nat) (l : List Msg) (C : Cuts) (msg : Msg) (w : World) (h : NetAt w p m l C) (hn : l.length < 64) :
    Calls Try.prog 53 #[.pointer (some ⟨p, 0, none⟩), msg.val] w fun e w' => e = .returned (.int .i64 0) ∧ NetAt w' p m (l ++ [msg]) C ∧ Fr (· = p) w w' := by
  obtain ⟨A, c, hB, hS, hc, hM⟩ := h
  have h0 : w.cell? ⟨p, 0, none⟩ = some (.slice A l.length c) := hB.cell 0
  have hf0 := hB.frozen 0
  have lg : p < w.heap.size := hB.lt
  have hn' : (l.length : Int) < (64 : Int) := by omega
  have hn2 : (0 : Int) ≤ (l.length : Int) := by omega
  have hn3 : (l.length : Int) ≤ (c : Int) := by omega
  obtain ⟨i0, hi0, hz0, hz1, hz2⟩ := info_parts msg_info
  go_enter Try.func53, Try.ntmps53
  go_wp2
  obtain ⟨W0, hW0⟩ : ∃ W0, W0 = w.alloc (Obj.cells msg.vals.toArray 28) := ⟨_, rfl⟩
  have hB0 : Blk W0 p 102 [.slice A l.length c, .map (some m)] := by subst hW0; exact hB.alloc _
  have hBm : Blk W0 w.heap.size 28 msg.vals := by subst hW0; exact Blk.new _ _ _
  have hS0 : Sl W0 28 8 A l.length (l.flatMap Msg.vals) := by subst hW0; exact hS.alloc _
  have hM0 : MapAt W0 m encLink (menc Value.bool C) := by subst hW0; exact hM.alloc _
  have hF0 : Fr (· = p) w W0 := by subst hW0; exact (Fr.refl _ _).alloc _
  have h0' : W0.cell? ⟨p, 0, none⟩ = some (.slice A l.length c) := hB0.cell 0
  have hf0' := hB0.frozen 0
  have l0 := hBm.cell 0; have l1 := hBm.cell 1; have l2 := hBm.cell 2; have l3 := hBm.cell 3; have l4 := hBm.cell 4; have l5 := hBm.cell 5; have l6 := hBm.cell 6; have l7 := hBm.cell 7
  simp only [List.getElem?_cons_zero, List.getElem?_cons_succ] at l0 l1 l2 l3 l4 l5 l6 l7
  have lW : w.heap.size < W0.heap.size := hBm.lt
  have lW2 : p < W0.heap.size := hB0.lt
  rw [← hW0]
  clear hW0 h0 hf0
  refine wp_region_o [(0, 0), (1, 0), (2, 0), (3, 0), (5, 0), (6, 0), (7, 0), (10, 0), (11, 0), (12, 0), (4, 1), (8, 1), (9, 1), (13, 1), (14, 1), (15, 0), (16, 1), (17, 2), (18, 2), (19, 0), (20, 0), (21, 3)] (by kernel_rfl) (by kernel_rfl) ?_
  repeat (first
    | (apply wpO_pure rfl rfl; (focus (intro w'; go_simp; (try rfl); done)); try simp only [Act.put, List.setIfInBounds_toArray, List.set_cons_zero, List.set_cons_succ])
    | (apply wpO_read rfl rfl; (focus (intro w' hf' hs'; (try simp only [World.size_drew, World.cell?_drew, World.size_alloc, World.size_setCell] at hs'); go_simp; (try rfl); done)); try simp only [Act.put, List.setIfInBounds_toArray, List.set_cons_zero, List.set_cons_succ])
    | (apply wpO_skip (by decide) rfl rfl; try simp only [Act.put, List.setIfInBounds_toArray, List.set_cons_zero, List.set_cons_succ]))
  refine wpO_loudE rfl fun K hK => ?_
  go_simp
  refine hK _ _ ⟨by (repeat (first | exact Fr.refl _ _ | assumption | refine Fr.drew ?_ | refine Fr.alloc ?_ _ | refine Fr.drewL ?_)), ?_⟩
  clear hK K
  refine wpO_loudE rfl fun K hK => ?_
  refine step_append_new rfl _ _ 44 rfl 28 i0 _ 8 72 Try.underlying44 hi0 hz0 hz1 hz2 rfl A l.length l.length (l.flatMap Msg.vals) rfl (hS0.alloc _).drew (some ⟨W0.heap.size, 0, none⟩) 1 1 28 msg.vals rfl (Sl.of_new W0 28 8 1 msg.vals.toArray msg.vals rfl rfl).drew (by omega) (by omega) (by simp only [maxLen]; omega) (by omega) ?_
  intro cap cur g1 g2 g3 g4
  refine hK _ _ ⟨by (repeat (first | exact Fr.refl _ _ | assumption | refine Fr.drew ?_ | refine Fr.alloc ?_ _ | refine Fr.drewL ?_)), ?_⟩
  clear hK K
  try simp only [Act.put, List.setIfInBounds_toArray, List.set_cons_zero, List.set_cons_succ]
  repeat (first
    | (apply wpO_pure rfl rfl; (focus (intro w'; go_simp; (try rfl); done)); try simp only [Act.put, List.setIfInBounds_toArray, List.set_cons_zero, List.set_cons_succ])
    | (apply wpO_read rfl rfl; (focus (intro w' hf' hs'; (try simp only [World.size_drew, World.cell?_drew, World.size_alloc, World.size_setCell] at hs'); go_simp; (try rfl); done)); try simp only [Act.put, List.setIfInBounds_toArray, List.set_cons_zero, List.set_cons_succ])
    | (apply wpO_skip (by decide) rfl rfl; try simp only [Act.put, List.setIfInBounds_toArray, List.set_cons_zero, List.set_cons_succ]))
  refine wpO_loud rfl fun K hK => ?_
  go_simp
  refine hK _ _ (wpO_nil ?_)
  clear hK K
  go_wp2
  go_ret
  have hb2 := ((hB0.set_ 0 (.slice (some ⟨W0.heap.size + 1, 0, none⟩) (l.length + 1) cap)).alloc (Obj.cells msg.vals.toArray 28)).alloc (.cells cur 28)
  have hs2 := Sl.of_new ((W0.setCell ⟨p, 0, none⟩ (.slice (some ⟨W0.heap.size + 1, 0, none⟩) (l.length + 1) cap)).alloc (Obj.cells msg.vals.toArray 28)) 28 8 (l.length + 1) cur _ (by rw [← vals_snoc, vals_len]; simp) g4
  have hm2 := ((hM0.far (p := ⟨p, 0, none⟩) (hM0.ne hB0).symm (.slice (some ⟨W0.heap.size + 1, 0, none⟩) (l.length + 1) cap)).alloc (Obj.cells msg.vals.toArray 28)).alloc (.cells cur 28)
  refine ⟨rfl, ⟨some ⟨W0.heap.size + 1, 0, none⟩, cap, ?_, ?_, ?_, hm2⟩, ?_⟩
  · simp only [List.length_append, List.length_cons, List.length_nil, Nat.zero_add]
    exact hb2.drew.drew
  · simp only [World.size_alloc, World.size_setCell] at hs2
    simp only [List.length_append, List.length_cons, List.length_nil, Nat.zero_add, vals_snoc]
    exact hs2.drew.drew
  · simpa using g1
  · refine Fr.drew (Fr.drew (Fr.alloc (Fr.alloc (Fr.setCell hF0 (.inl rfl) _) _) _))
end Go.Proofs.Ytegogggemmcgdaa
