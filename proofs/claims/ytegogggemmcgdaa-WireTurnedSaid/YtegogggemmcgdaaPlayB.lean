/- WirePlays: Clone, List. -/
import Derived.Test.YtegogggemmcgdaaPlayA
namespace Go.Proofs.Ytegogggemmcgdaa
open Go Go.RowKit Go.Proofs

set_option maxRecDepth 100000 in
set_option maxHeartbeats 1000000 in
theorem clone_any (A : Option Addr) (c : Nat) (l : List Msg) (w : World) (h : Sl w 28 8 A l.length (l.flatMap Msg.vals)) (hl : l.length ≤ 1000) :
    Calls Try.prog 82 #[.slice A l.length c] w fun e w' => ∃ v, e = .returned v ∧ w'.ownsRow w.heap.size 28 8 v l.length (l.flatMap Msg.vals) ∧ Fr No w w' := by
  obtain ⟨i0, hi0, hz0, hz1, hz2⟩ := info_parts msg_info
  have H := Lib.hid h
  clear h
  have cN : ∀ (n c : Nat) (w : World), (binOp .eql 44 (.slice none n c) (.slice none 0 0)).run Try.prog w = .ok (.bool true) w := fun _ _ _ => by kernel_rfl
  have cS : ∀ (ad : Addr) (n c : Nat) (w : World), (binOp .eql 44 (.slice (some ad) n c) (.slice none 0 0)).run Try.prog w = .ok (.bool false) w := fun _ _ _ _ => by kernel_rfl
  go_enter Try.func82, Try.ntmps82
  rcases A with _ | ad
  · have h0 : l = [] := by
      rcases Nat.eq_zero_or_pos l.length with h0 | h0
      · exact List.eq_nil_of_length_eq_zero h0
      · obtain ⟨b, o, hA, _⟩ := H.out.cells h0
        cases hA
    go_wp2
    go_ret
    subst h0
    exact ⟨_, rfl, ⟨rfl, .inl ⟨rfl, rfl⟩⟩, Fr.refl _ _⟩
  · go_wp2_with (at_builtin; go_loud (refine wpList_append_owned' (by rfl) (.tmp 5) (.tmp 6) 44 (by rfl) w.heap.size 28 i0 _ 8 72 Try.underlying44 hi0 hz0 hz1 hz2 rfl (by omega) (.slice (some ⟨w.heap.size, 0, none⟩) 0 0) 0 [] (by rfl) ⟨rfl, .inr ⟨w.heap.size, 0, #[], rfl, Nat.le_refl _, heap_alloc_new w _, Nat.le_refl _, by simp [maxLen], rfl, rfl⟩⟩ (some ad) l.length c 28 (l.flatMap Msg.vals) (by rfl) (H.out.alloc _) (vals_one _) (by simp only [maxLen]; omega) (by omega) (by simp only [World.size_alloc]; omega) ?_); intro v1 w1 ho1 hg1 hat1
                 simp only [Nat.zero_add, List.nil_append] at ho1
                 have F1 := Lib.hid (((Fr.refl No w).alloc (Obj.cells #[] 28)).grown hg1 (fun k hk => .inr (by simp only [Value.ownBlock, Option.some.injEq] at hk; omega)))
                 have O1 := Lib.hid ho1
                 clear ho1 hg1 hat1)
    all_goals
      go_ret
      exact ⟨_, rfl, O1.out, F1.out⟩
theorem list_any (p m : Nat) (l : List Msg) (C : Cuts) (w : World) (h : NetAt w p m l C) (hl : l.length ≤ 1000) :
    Calls Try.prog 42 #[.pointer (some ⟨p, 0, none⟩)] w fun e w' => ∃ v, e = .returned v ∧ w'.ownsRow w.heap.size 28 8 v l.length (l.flatMap Msg.vals) ∧ Fr No w w' := by
  obtain ⟨A, c, hB, hS, hc, hM⟩ := h
  have h0 := hB.cell 0
  simp only [List.getElem?_cons_zero] at h0
  have lp := hB.lt
  have HS := Lib.hid hS
  clear hB hS hM
  go_enter Try.func42, Try.ntmps42
  go_wp2_with (go_at_call 82; refine (clone_any A c l _ HS.out hl).mono ?_; rintro e w1 ⟨v, rfl, ho, hf⟩)
  go_ret
  exact ⟨v, rfl, ho, hf⟩
end Go.Proofs.Ytegogggemmcgdaa
