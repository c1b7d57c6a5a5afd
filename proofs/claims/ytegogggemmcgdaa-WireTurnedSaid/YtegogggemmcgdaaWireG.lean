/- wire: Grow, Concat, out, Take, Lose, Twice. -/
import Derived.Test.YtegogggemmcgdaaWireT
namespace Go.Proofs.Ytegogggemmcgdaa
open Go Go.RowKit Go.Proofs

set_option maxRecDepth 100000 in
set_option maxHeartbeats 1000000 in
theorem grow_nil (n : Nat) (w : World) (hn : n ≤ 1000000) :
    Calls Try.prog 109 #[.slice none 0 0, .int .i64 n] w fun e w' => ∃ v, e = .returned v ∧ w'.ownsRow w.heap.size 28 8 v 0 [] ∧ Fr No w w' := by
  rcases Nat.eq_zero_or_pos n with rfl | hp
  · go_enter Try.func109, Try.ntmps109
    go_wp2
    go_ret
    exact ⟨_, rfl, World.ownsRow_nil _ _ _ _, Fr.refl _ _⟩
  · obtain ⟨i0, hi0, hz0, hz1, hz2⟩ := info_parts msg_info
    have hn1 : (0 : Int) < (n : Int) := by omega
    have hn2 : (n : Int) ≤ 1000000 := by omega
    have hb : Try.t28.bytes = 72 := by kernel_rfl
    have k1 : ¬ (281474976710656 < (n : Int) * (Try.t28.bytes : Int)) := by rw [hb]; omega
    have k2 : ¬ (281474976710656 < Builtin.nextslicecap n 0 * Try.t28.bytes) := by rw [hb, nextslicecap_zero hp]; omega
    have k3 : ¬ n = 0 := by omega
    have k4 : ¬ n * 8 = 0 := by omega
    clear hb hz0 hz1 hz2 hi0
    go_enter Try.func109, Try.ntmps109
    go_wp2
    go_ret
    refine ⟨_, rfl, ?_, by (repeat (first | exact Fr.refl _ _ | assumption | refine Fr.drew ?_ | refine Fr.alloc ?_ _ | refine Fr.drewL ?_))⟩
    have c1 := grownCap_ge w n 0 28
    have c2 := grownCap_le_maxLen w n 0 28 (by simp only [maxLen]; omega)
    refine World.ownsRow_made w _ (grownCap w n 0 28) (Nat.le_refl _) c2 ?_
    simp only [Array.size_append, size_zeroCells]
    unfold grownCap at c1 ⊢
    simp only [List.size_toArray, List.length_cons, List.length_nil, ← Nat.add_mul]
    congr 1
    omega

theorem vals_append (l l' : List Msg) : (l ++ l').flatMap Msg.vals = l.flatMap Msg.vals ++ l'.flatMap Msg.vals := List.flatMap_append ..
theorem vals_one (l : List Msg) : ∀ u ∈ l.flatMap Msg.vals, u.oneCell' = true := by
  intro u hu
  obtain ⟨m, _, hm⟩ := List.mem_flatMap.1 hu
  simp only [List.mem_cons, List.not_mem_nil, or_false] at hm
  rcases hm with h | h | h | h | h | h | h | h <;> subst h <;> rfl

/-! ### Concat of two -/
def Cat1 (n1 n2 : Nat) (sz i : Value) : Prop := (i = .int .i64 0 ∧ sz = .int .i64 0) ∨ (i = .int .i64 1 ∧ sz = .int .i64 n1) ∨ (i = .int .i64 2 ∧ sz = .int .i64 (n1 + n2))
def Cat2 (w0 : World) (l1 l2 : List Msg) (v' i : Value) (w : World) : Prop :=
  ∃ v, v = v' ∧ Fr No w0 w ∧ ((i = .int .i64 0 ∧ w.ownsRow w0.heap.size 28 8 v 0 []) ∨ (i = .int .i64 1 ∧ w.ownsRow w0.heap.size 28 8 v l1.length (l1.flatMap Msg.vals)) ∨
    (i = .int .i64 2 ∧ w.ownsRow w0.heap.size 28 8 v (l1.length + l2.length) ((l1 ++ l2).flatMap Msg.vals)))
set_option maxRecDepth 100000 in
set_option maxHeartbeats 1000000 in
theorem concat_two (b : Nat) (A1 A2 : Option Addr) (c1 c2 : Nat) (l1 l2 : List Msg) (w : World)
    (hb : Blk w b 44 [.slice A1 l1.length c1, .slice A2 l2.length c2])
    (h1 : Sl w 28 8 A1 l1.length (l1.flatMap Msg.vals)) (h2 : Sl w 28 8 A2 l2.length (l2.flatMap Msg.vals)) (hn1 : l1.length ≤ 1000) (hn2 : l2.length ≤ 1000) :
    Calls Try.prog 93 #[.slice (some ⟨b, 0, none⟩) 2 2] w fun e w' => ∃ v, e = .returned v ∧ w'.ownsRow w.heap.size 28 8 v (l1.length + l2.length) ((l1 ++ l2).flatMap Msg.vals) ∧ Fr No w w' := by
  have k0 := hb.cell 0
  have k1 := hb.cell 1
  simp only [List.getElem?_cons_zero, List.getElem?_cons_succ] at k0 k1
  have hlt := hb.lt
  obtain ⟨i0, hi0, hz0, hz1, hz2⟩ := info_parts msg_info
  have z1 : (l1.length : Int) ≤ 1000 := by omega
  have z2 : (l2.length : Int) ≤ 1000 := by omega
  have z3 : (0 : Int) ≤ (l1.length : Int) := by omega
  have z4 : (0 : Int) ≤ (l2.length : Int) := by omega
  go_enter Try.func93, Try.ntmps93
  go_wp2
  go_loop [3, 5, 11] (fun s _ i => Cat1 l1.length l2.length s i) (fun _ _ i => 2 - (intOf i).toNat)
  case atStart => exact .inl ⟨rfl, rfl⟩
  case round =>
    rcases hrel with ⟨rfl, rfl⟩ | ⟨rfl, rfl⟩ | ⟨rfl, rfl⟩
    · go_wp2
      exact ⟨.inr (.inl ⟨rfl, rfl⟩), by simp [intOf]⟩
    · go_wp2
      exact ⟨.inr (.inr ⟨rfl, rfl⟩), by simp [intOf]⟩
    · go_wp2_with (go_at_call 109; refine (grow_nil (l1.length + l2.length) _ (by omega)).mono ?_; rintro e w1 ⟨v1, rfl, hown1, hf1⟩)
      go_loopw [6, 8, 27] (fun v _ i wr => Cat2 w l1 l2 v i wr) (fun _ _ i _ => 2 - (intOf i).toNat)
      case atStart => exact ⟨_, rfl, hf1, .inl ⟨rfl, hown1⟩⟩
      case round =>
        clear hown1 hf1
        obtain ⟨v, rfl, hfr, ⟨rfl, ho⟩ | ⟨rfl, ho⟩ | ⟨rfl, ho⟩⟩ := hrel
        · have hc := hfr.cells
          go_wp2_with (at_builtin; refine wpList_append_owned' (by rfl) (.tmp 31) (.tmp 32) 44 (by rfl) w.heap.size 28 i0 _ 8 72 Try.underlying44 hi0 hz0 hz1 hz2 rfl (by omega) v 0 [] (by rfl) ho A1 l1.length c1 28 (l1.flatMap Msg.vals) (by rfl) (h1.fr0 hfr) (vals_one _) (by simp only [maxLen]; omega) (by omega) hfr.size ?_; intro v2 w2 hown2 hg2 hat2)
          have hfr2 := hfr.grown hg2 (fun k hk => .inr ((ho.lt k hk).1))
          simp only [Nat.zero_add, List.nil_append] at hown2
          exact ⟨⟨_, rfl, hfr2, .inr (.inl ⟨rfl, hown2⟩)⟩, by simp [intOf]⟩
        · have hc := hfr.cells
          go_wp2_with (at_builtin; refine wpList_append_owned' (by rfl) (.tmp 31) (.tmp 32) 44 (by rfl) w.heap.size 28 i0 _ 8 72 Try.underlying44 hi0 hz0 hz1 hz2 rfl (by omega) v l1.length (l1.flatMap Msg.vals) (by rfl) ho A2 l2.length c2 28 (l2.flatMap Msg.vals) (by rfl) (h2.fr0 hfr) (vals_one _) (by simp only [maxLen]; omega) (by omega) hfr.size ?_; intro v2 w2 hown2 hg2 hat2)
          have hfr2 := hfr.grown hg2 (fun k hk => .inr ((ho.lt k hk).1))
          rw [← vals_append] at hown2
          exact ⟨⟨_, rfl, hfr2, .inr (.inr ⟨rfl, hown2⟩)⟩, by simp [intOf]⟩
        · go_wp2
          go_ret
          exact ⟨v, rfl, ho, hfr⟩
end Go.Proofs.Ytegogggemmcgdaa
