/- WirePlays: taken, all, Same. -/
import Derived.Test.YtegogggemmcgdaaRefI
namespace Go.Proofs.Ytegogggemmcgdaa
open Go Go.RowKit Go.Proofs

theorem taken_any (x : Msg) (w : World) :
    Calls Try.prog 51 #[x.val] w fun e w' => e = .returned x.val ∧ Fr No w w' := by
  go_enter Try.func51, Try.ntmps51
  go_wp2
  exact bodyPost_ret (v := x.val) (by simp [results, Try.results51, go_sem]) rfl ⟨rfl, by (repeat (first | exact Fr.refl _ _ | assumption | refine Fr.drew ?_ | refine Fr.alloc ?_ _ | refine Fr.drewL ?_))⟩
structure RowR (w0 : World) (v : Value) (xs : List Msg) (w : World) : Prop where
  row : w.ownsRow w0.heap.size 30 8 v xs.length (xs.flatMap Msg.vals)
  fr : Fr No w0 w
theorem RowR.fr0 {w0 w w' : World} {v : Value} {xs : List Msg} (h : RowR w0 v xs w) (hf : Fr No w w') : RowR w0 v xs w' := ⟨own_fr0 h.row hf, h.fr.trans hf⟩
theorem RowR.grow {w0 w w' : World} {v v' : Value} {xs : List Msg} {x : Msg} (h : RowR w0 v xs w) (ho : w'.ownsRow w0.heap.size 30 8 v' (xs.length + 1) (xs.flatMap Msg.vals ++ x.vals)) (hg : w.grownBy w' v.ownBlock) : RowR w0 v' (xs ++ [x]) w' := by
  refine ⟨?_, h.fr.grown hg (fun k hk => .inr (own_size h.row k hk).1)⟩
  rw [vals_snoc]
  simpa using ho
def AllRel (w0 : World) (xs : List Msg) (g : Nat) (v3 v4 : Value) (wr : World) : Prop :=
  ∃ (k : Nat) (v : Value), k + g = xs.length ∧ v4 = .int .i64 k ∧ v = v3 ∧ RowR w0 v (xs.take k) wr
theorem take_snoc {l : List Msg} {k : Nat} {x : Msg} (hx : l[k]? = some x) : l.take (k + 1) = l.take k ++ [x] := by
  rw [List.take_add_one, hx]; rfl
set_option maxRecDepth 100000 in
set_option maxHeartbeats 2000000 in
theorem all_any (A : Option Addr) (c : Nat) (xs : List Msg) (w : World) (h : Sl w 28 8 A xs.length (xs.flatMap Msg.vals)) (hl : xs.length ≤ 1000) :
    Calls Try.prog 44 #[.slice A xs.length c] w fun e w' => ∃ A' c', e = .returned (.slice A' xs.length c') ∧ Sl w' 30 8 A' xs.length (xs.flatMap Msg.vals) ∧ Fr No w w' := by
  have H := Lib.hid h
  have hl0 : (0 : Int) ≤ (xs.length : Int) := by omega
  have hl1 : (xs.length : Int) ≤ 1000 := by omega
  clear h hl
  obtain ⟨i0, hi0, hz0, hz1, hz2⟩ := info_parts refMsg_info
  go_enter Try.func44, Try.ntmps44
  go_wp2
  go_loopg [3, 4] xs.length (fun g v3 v4 wr => AllRel w xs g v3 v4 wr)
  case atStart => exact ⟨0, _, by omega, rfl, rfl, ⟨⟨rfl, .inl ⟨rfl, rfl⟩⟩, Fr.refl _ _⟩⟩
  case round =>
    obtain ⟨k, v, hg, rfl, rfl, ht⟩ := hrel
    have HT := Lib.hid ht
    clear ht
    have hk0 : (0 : Int) ≤ (k : Int) := by omega
    by_cases hlt : k < xs.length
    · have hk1 : (k : Int) < (xs.length : Int) := by omega
      obtain ⟨x, hx⟩ : ∃ x, xs[k]? = some x := ⟨_, List.getElem?_eq_getElem hlt⟩
      obtain ⟨b, o, rfl, hb, ⟨m0, m1, m2, m3, m4, m5, m6, m7⟩⟩ := msg_cells (H.out.fr0 HT.out.fr) hx
      have HX := Lib.hid (take_snoc hx)
      have bK : (xs.take k).length ≤ 1000 := by rw [List.length_take]; omega
      clear hx
      go_wp2_with (first
        | (go_at_call 51; refine (taken_any x _).mono ?_; rintro e w2 ⟨rfl, hf2⟩; have T2 := Lib.hid (HT.out.fr0 hf2); clear hf2)
        | (at_builtin; go_loud (refine wpList_append_owned' (by rfl) (.tmp 11) (.tmp 17) 22 (by rfl) w.heap.size 30 i0 _ 8 72 Try.underlying22 hi0 hz0 hz1 hz2 rfl (by omega) v (xs.take k).length ((xs.take k).flatMap Msg.vals) (by rfl) (T2.out.fr0 ((Fr.refl No _).alloc (Obj.cells x.vals.toArray 30))).row (some ⟨w2.heap.size, 0, none⟩) 1 1 30 x.vals (by rfl) (Sl.of_new w2 30 8 1 x.vals.toArray x.vals rfl rfl) (by simpa using vals_one [x]) (by simp only [maxLen]; omega) (by omega) (by have := T2.out.fr.size; simp only [World.size_alloc] at this ⊢; omega) ?_); intro v2 w4 hown2 hg2 hat2))
      have T4 := (T2.out.fr0 ((Fr.refl No _).alloc (Obj.cells x.vals.toArray 30))).grow (x := x) hown2 hg2
      rw [← HX.out] at T4
      go_roundg (xs.length - (k + 1))
      case measure => omega
      case rel => exact ⟨k + 1, v2, by omega, by go_num, rfl, T4⟩
    · obtain rfl : k = xs.length := by omega
      rw [List.take_length] at HT
      obtain ⟨A3, c3, rfl, hc3⟩ := own_shape HT.out.row
      go_wp2
      go_ret
      exact ⟨A3, c3, rfl, Sl.of_own HT.out.row, HT.out.fr⟩

/-! ### Same -/
instance : DecidableEq Msg := fun a b => by
  cases a; cases b
  simp only [Msg.mk.injEq]
  infer_instance
end Go.Proofs.Ytegogggemmcgdaa
