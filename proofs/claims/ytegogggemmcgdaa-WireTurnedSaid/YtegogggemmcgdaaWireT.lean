import Derived.Test.YtegogggemmcgdaaWireM
namespace Go.Proofs.Ytegogggemmcgdaa
open Go Go.RowKit Go.Proofs
set_option maxRecDepth 100000 in
set_option maxHeartbeats 1000000 in
theorem turn_any (p m : Nat) (l : List Msg) (C : Cuts) (a b : Int) (c : Bool) (w : World) (h : NetAt w p m l C) :
    Calls Try.prog 54 #[.pointer (some ⟨p, 0, none⟩), .int .i64 a, .int .i64 b, .bool c] w fun e w' => e = .returned (.int .i64 (turnE a b)) ∧ NetAt w' p m l (turnC C a b c) ∧ Fr (· = m) w w' := by
  cases hr : linkB (min a b) (max a b) with
  | false =>
    have e1 : turnE a b = 1 := by simp [turnE, hr]
    have e2 : turnC C a b c = C := by simp [turnC, hr]
    rw [e1, e2]
    clear e1 e2
    have H := Lib.hid h
    clear h
    go_enter Try.func54, Try.ntmps54
    go_wp2_with (first
      | (go_at_call 91; refine (linkOf_any _ _ _).mono ?_; rintro e w1 ⟨rfl, hf1⟩)
      | (go_at_call 92; refine (linkRight_any _ _ _).mono ?_; rintro e w2 ⟨rfl, hf2⟩))
    go_ret
    exact ⟨rfl, (((H.out).fr0 hf1).alloc _).fr0 hf2, ((hf1.alloc _).trans hf2).any _⟩
  | true =>
    have e1 : turnE a b = 0 := by simp [turnE, hr]
    have e2 : turnC C a b c = mput (min a b, max a b) c C := by simp [turnC, hr]
    rw [e1, e2]
    clear e1 e2
    have H := Lib.hid h
    clear h
    go_enter Try.func54, Try.ntmps54
    go_wp2_with (first
      | (go_at_call 91; refine (linkOf_any _ _ _).mono ?_; rintro e w1 ⟨rfl, hf1⟩)
      | (go_at_call 92; refine (linkRight_any _ _ _).mono ?_; rintro e w2 ⟨rfl, hf2⟩))
    have H2 := (((H.out).fr0 hf1).alloc (Obj.cells #[.int .i64 (min a b), .int .i64 (max a b)] 154)).fr0 hf2
    have hF2 := (hf1.alloc (Obj.cells #[.int .i64 (min a b), .int .i64 (max a b)] 154)).trans hf2
    have hL2 := (Blk.new w1 154 [.int .i64 (min a b), .int .i64 (max a b)]).fr hf2 (fun h => h)
    clear hf1 hf2
    obtain ⟨A, cp, hB, hS, hc, hM⟩ := H2
    have h1 := hB.cell 1
    have l0 := hL2.cell 0
    have l1 := hL2.cell 1
    simp only [List.getElem?_cons_zero, List.getElem?_cons_succ] at h1 l0 l1
    have z0 := hB.lt
    have z1 := hL2.lt
    obtain ⟨o, hu, hMu, _⟩ := run_update link_law (t := 100) (et := 4) (by kernel_rfl) hM.drew (min a b, max a b) (.bool c)
    refine wp_region_o [(0, 0), (1, 0), (2, 0), (5, 0), (3, 1), (4, 1), (6, 3)] (by kernel_rfl) (by kernel_rfl) ?_
    repeat (first
      | (apply wpO_pure rfl rfl; (focus (intro w'; go_simp; (try rfl); done)); try simp only [Act.put, List.setIfInBounds_toArray, List.set_cons_zero, List.set_cons_succ])
      | (apply wpO_read rfl rfl; (focus (intro w' hf' hs'; (try simp only [World.size_drew, World.cell?_drew, World.size_alloc, World.size_setCell] at hs'); go_simp; (try rfl); done)); try simp only [Act.put, List.setIfInBounds_toArray, List.set_cons_zero, List.set_cons_succ])
      | (apply wpO_skip (by decide) rfl rfl; try simp only [Act.put, List.setIfInBounds_toArray, List.set_cons_zero, List.set_cons_succ]))
    refine wpO_loud rfl fun K hK => ?_
    go_simp
    refine hK _ _ ?_
    clear hK K
    repeat (first
      | (apply wpO_pure rfl rfl; (focus (intro w'; go_simp; (try rfl); done)); try simp only [Act.put, List.setIfInBounds_toArray, List.set_cons_zero, List.set_cons_succ])
      | (apply wpO_read rfl rfl; (focus (intro w' hf' hs'; (try simp only [World.size_drew, World.cell?_drew, World.size_alloc, World.size_setCell] at hs'); go_simp; (try rfl); done)); try simp only [Act.put, List.setIfInBounds_toArray, List.set_cons_zero, List.set_cons_succ])
      | (apply wpO_skip (by decide) rfl rfl; try simp only [Act.put, List.setIfInBounds_toArray, List.set_cons_zero, List.set_cons_succ]))
    refine wpO_nil ?_
    go_wp2
    go_ret
    obtain ⟨o0, ho0⟩ : ∃ o0, w2.heap[m]? = some o0 := ⟨_, Array.getElem?_eq_getElem hM.lt⟩
    refine ⟨rfl, ⟨A, cp, ?_, ?_, hc, ?_⟩, ?_⟩
    · exact hB.drew.obj (hM.ne hB).symm o
    · exact hS.drew.obj (hr := ho0) (fun cur fr e => hM.not_cells cur _ fr (e ▸ ho0)) o
    · rw [← mput_menc]; exact hMu
    · exact Fr.setObj ((hF2.any (· = m)).drew) (.inl rfl) o

theorem cut_nil (a b : Int) (w : World) :
    Calls Try.prog 17 #[.pointer none, .int .i64 a, .int .i64 b] w fun e w' => e = .returned (.int .i64 2) ∧ Fr No w w' := by
  go_enter Try.func17, Try.ntmps17
  go_wp2_with (go_at_call 54; refine (turn_nil _ _ _ _).mono ?_; rintro e w1 ⟨rfl, hf1⟩)
  go_ret
  exact ⟨rfl, hf1⟩
theorem join_nil (a b : Int) (w : World) :
    Calls Try.prog 18 #[.pointer none, .int .i64 a, .int .i64 b] w fun e w' => e = .returned (.int .i64 2) ∧ Fr No w w' := by
  go_enter Try.func18, Try.ntmps18
  go_wp2_with (go_at_call 54; refine (turn_nil _ _ _ _).mono ?_; rintro e w1 ⟨rfl, hf1⟩)
  go_ret
  exact ⟨rfl, hf1⟩
theorem cut_any (p m : Nat) (l : List Msg) (C : Cuts) (a b : Int) (w : World) (h : NetAt w p m l C) :
    Calls Try.prog 17 #[.pointer (some ⟨p, 0, none⟩), .int .i64 a, .int .i64 b] w fun e w' => e = .returned (.int .i64 (turnE a b)) ∧ NetAt w' p m l (turnC C a b true) ∧ Fr (· = m) w w' := by
  have H := Lib.hid h
  clear h
  go_enter Try.func17, Try.ntmps17
  go_wp2_with (go_at_call 54; refine (turn_any p m l C _ _ _ _ H.out).mono ?_; rintro e w1 ⟨rfl, hn1, hf1⟩)
  go_ret
  exact ⟨rfl, hn1, hf1⟩
theorem join_any (p m : Nat) (l : List Msg) (C : Cuts) (a b : Int) (w : World) (h : NetAt w p m l C) :
    Calls Try.prog 18 #[.pointer (some ⟨p, 0, none⟩), .int .i64 a, .int .i64 b] w fun e w' => e = .returned (.int .i64 (turnE a b)) ∧ NetAt w' p m l (turnC C a b false) ∧ Fr (· = m) w w' := by
  have H := Lib.hid h
  clear h
  go_enter Try.func18, Try.ntmps18
  go_wp2_with (go_at_call 54; refine (turn_any p m l C _ _ _ _ H.out).mono ?_; rintro e w1 ⟨rfl, hn1, hf1⟩)
  go_ret
  exact ⟨rfl, hn1, hf1⟩

/-! ### may a message come? -/
def cutV (C : Cuts) (msg : Msg) : Bool := (mget (min msg.frm msg.to_, max msg.frm msg.to_) C).getD false
theorem bool_info : (Try.prog.info? 4).map (fun i => (i.zero, i.size, i.bytes)) = some (some (.bool false), 1, 1) := by kernel_rfl
set_option maxRecDepth 100000 in
set_option maxHeartbeats 1000000 in
theorem open_any (p m : Nat) (l : List Msg) (C : Cuts) (msg : Msg) (w : World) (h : NetAt w p m l C) :
    Calls Try.prog 56 #[.pointer (some ⟨p, 0, none⟩), msg.val] w fun e w' => e = .returned (.bool (!cutV C msg)) ∧ Fr No w w' := by
  obtain ⟨i0, hi0, hz0, hz1, hz2⟩ := info_parts bool_info
  have hlook : ∀ w', MapAt w' m encLink (menc Value.bool C) → (Instr.lookup 100 (.map (some m)) (.agg #[.int .i64 (min msg.frm msg.to_), .int .i64 (max msg.frm msg.to_)]) false).run Try.prog w' = .ok (.bool (cutV C msg)) w' := fun w' hw' => by
    have := run_lookup link_law (t := 100) (et := 4) (by kernel_rfl) hi0 hz0 hw' (min msg.frm msg.to_, max msg.frm msg.to_) false
    rw [mget_menc] at this
    unfold cutV
    rw [this]
    cases mget (min msg.frm msg.to_, max msg.frm msg.to_) C <;> rfl
  have H := Lib.hid h
  have HL := Lib.hid hlook
  clear h hlook
  go_enter Try.func56, Try.ntmps56
  go_wp2
  have H2 := H.out.alloc (Obj.cells msg.vals.toArray 28)
  obtain ⟨A, cp, hB, hS, hc, hM⟩ := H2
  have hL2 := Blk.new w 28 msg.vals
  have h1 := hB.cell 1
  have l0 := hL2.cell 0
  have l1 := hL2.cell 1
  simp only [List.getElem?_cons_zero, List.getElem?_cons_succ] at h1 l0 l1
  have z0 := hB.lt
  have z1 := hL2.lt
  have z2 := H.out.lt
  refine wp_region_o [(0, 0), (1, 0), (2, 0), (4, 0), (6, 0), (3, 1), (5, 1), (7, 1), (8, 2), (9, 1), (10, 0), (11, 0)] (by kernel_rfl) (by kernel_rfl) ?_
  repeat (first
    | (apply wpO_pure rfl rfl; (focus (intro w'; go_simp; (try rfl); done)); try simp only [Act.put, List.setIfInBounds_toArray, List.set_cons_zero, List.set_cons_succ])
    | (apply wpO_read rfl rfl; (focus (intro w' hf' hs'; (try simp only [World.size_drew, World.cell?_drew, World.size_alloc, World.size_setCell] at hs'); go_simp; (try rfl); done)); try simp only [Act.put, List.setIfInBounds_toArray, List.set_cons_zero, List.set_cons_succ])
    | (apply wpO_skip (by decide) rfl rfl; try simp only [Act.put, List.setIfInBounds_toArray, List.set_cons_zero, List.set_cons_succ]))
  refine wpO_loudE rfl fun K hK => ?_
  go_simp
  refine (linkOf_any _ _ _).mono ?_
  rintro e w1 ⟨rfl, hf1⟩
  refine hK _ _ ⟨hf1, ?_⟩
  clear hK K
  apply wpO_read rfl rfl
  (focus (intro w' hf' hs'; have hrd := HL.out w' ((hM.drew.fr hf1 (fun h => h)).fr hf' (fun h => h)); go_simp; (try rfl); done))
  try simp only [Act.put, List.setIfInBounds_toArray, List.set_cons_zero, List.set_cons_succ]
  repeat (first
    | (apply wpO_pure rfl rfl; (focus (intro w'; go_simp; (try rfl); done)); try simp only [Act.put, List.setIfInBounds_toArray, List.set_cons_zero, List.set_cons_succ])
    | (apply wpO_read rfl rfl; (focus (intro w' hf' hs'; (try simp only [World.size_drew, World.cell?_drew, World.size_alloc, World.size_setCell] at hs'); go_simp; (try rfl); done)); try simp only [Act.put, List.setIfInBounds_toArray, List.set_cons_zero, List.set_cons_succ])
    | (apply wpO_skip (by decide) rfl rfl; try simp only [Act.put, List.setIfInBounds_toArray, List.set_cons_zero, List.set_cons_succ]))
  refine wpO_nil ?_
  go_wp2
  go_ret
  exact ⟨rfl, ((Fr.refl _ _).alloc _).drew.trans (hf1)⟩
end Go.Proofs.Ytegogggemmcgdaa
