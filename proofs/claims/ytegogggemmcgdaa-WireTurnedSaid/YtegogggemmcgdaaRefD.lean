/- ref.Net: Lose, Take. -/
import Derived.Test.YtegogggemmcgdaaRefC
namespace Go.Proofs.Ytegogggemmcgdaa
open Go Go.RowKit Go.Proofs

theorem refLose_bad (r : Nat) (l : List Msg) (K : List (Int × Int)) (i : Int) (w : World) (h : RefAt w r l K) (hi : inL i l.length = false) :
    Calls Try.prog 77 #[.pointer (some ⟨r, 0, none⟩), .int .i64 i] w fun e w' => e = .returned (.int .i64 30) ∧ Fr No w w' := by
  obtain ⟨A, c, A2, c2, hB, hS, hc, hS2, hc2⟩ := h
  have n0 := hB.cell 0
  simp only [List.getElem?_cons_zero] at n0
  simp only [inL, Bool.and_eq_false_iff, decide_eq_false_iff_not] at hi
  clear hB hS hS2
  by_cases h0 : i < 0
  · clear hi
    go_enter Try.func77, Try.ntmps77
    go_wp2
    go_ret
    exact ⟨rfl, Fr.refl _ _⟩
  · have h1 : (l.length : Int) ≤ i := by omega
    clear hi
    go_enter Try.func77, Try.ntmps77
    go_wp2
    go_ret
    exact ⟨rfl, Fr.refl _ _⟩
set_option maxRecDepth 100000 in
set_option maxHeartbeats 2000000 in
theorem refLose_ok (r : Nat) (l : List Msg) (K : List (Int × Int)) (k : Nat) (w : World) (h : RefAt w r l K) (hk : k < l.length) (hl : l.length ≤ 1000) :
    Calls Try.prog 77 #[.pointer (some ⟨r, 0, none⟩), .int .i64 k] w fun e w' => e = .returned (.int .i64 0) ∧ RefAt w' r (l.eraseIdx k) K ∧ Fr (· = r) w w' ∧ LFresh w' r w.heap.size := by
  obtain ⟨A, c, A2, c2, hB, hS, hc, hS2, hc2⟩ := h
  have n0 := hB.cell 0
  have nf := hB.frozen 0
  simp only [List.getElem?_cons_zero] at n0
  have rl := hB.lt
  have HB := Lib.hid hB
  have HS := Lib.hid hS
  have HS2 := Lib.hid hS2
  clear hB hS hS2
  obtain ⟨i0, hi0, hz0, hz1, hz2⟩ := info_parts refMsg_info
  have i1 : (0 : Int) ≤ (k : Int) := by omega
  have i2 : (k : Int) < (l.length : Int) := by omega
  have i3 : (k : Int) ≤ (c : Int) := by omega
  have i4 : (k : Int) + 1 ≤ (l.length : Int) := by omega
  have i5 : (l.length : Int) ≤ (c : Int) := by omega
  have i6 : (k : Int) ≤ 1000 := by omega
  have i7 : IntKind.i64.wrap ((k : Int) + 1) = (k : Int) + 1 := IntWalk.i64_in _ (by omega)
  have i8 : (0 : Int) ≤ (k : Int) + 1 := by omega
  have i9 : ((k : Int) + 1).toNat = k + 1 := by omega
  have t1 : (l.take k).length = k := by rw [List.length_take]; omega
  have t2 : (l.drop (k + 1)).length = l.length - (k + 1) := List.length_drop ..
  have T1 := Lib.hid t1
  have T2 := Lib.hid t2
  clear t1 t2
  go_enter Try.func77, Try.ntmps77
  go_wp2_with (at_builtin; first
    | ((refine wpList_append_owned' (by rfl) (.tmp 17) (.tmp 23) 22 (by rfl) w.heap.size 30 i0 _ 8 72 Try.underlying22 hi0 hz0 hz1 hz2 rfl (by omega) (.slice none 0 0) 0 [] (by rfl) ⟨rfl, .inl ⟨rfl, rfl⟩⟩ A k c 30 ((l.take k).flatMap Msg.vals) (by rfl) (by rw [← vals_take]; exact HS.out.take (by omega)) (vals_one _) (by simp only [maxLen]; omega) (by omega) (Nat.le_refl _) ?_); intro v1 w1 ho1 hg1 hat1
       have F1 := Lib.hid ((Fr.refl No w).grown hg1 (fun k hk => by cases hk))
       simp only [Nat.zero_add, List.nil_append] at ho1
       have O1 := Lib.hid ho1
       have B1 := HB.out.fr F1.out (fun h => h)
       have n1 := B1.cell 0
       have nf1 := B1.frozen 0
       simp only [List.getElem?_cons_zero] at n1
       have rl1 := B1.lt
       clear B1 ho1 hg1 hat1)
    | ((refine wpList_append_owned' (by rfl) (.tmp 25) (.tmp 32) 22 (by rfl) w.heap.size 30 i0 _ 8 72 Try.underlying22 hi0 hz0 hz1 hz2 rfl (by omega) v1 k ((l.take k).flatMap Msg.vals) (by rfl) O1.out (if c = k + 1 then A else Option.map (fun x => x.add ((k + 1) * 8)) A) (l.length - (k + 1)) (c - (k + 1)) 30 ((l.drop (k + 1)).flatMap Msg.vals) (by rfl) (by rw [← vals_drop]; exact (HS.out.drop (by omega) (by omega)).fr0 F1.out) (vals_one _) (by simp only [maxLen]; omega) (by omega) F1.out.size ?_); intro v2 w2 ho2 hg2 hat2
       have F2 := Lib.hid (F1.out.grown hg2 (fun k hk => .inr (own_size O1.out k hk).1))
       obtain ⟨A3, c3, rfl, hc3'⟩ := own_shape ho2
       have O2 := Lib.hid ho2
       have B2 := HB.out.fr F2.out (fun h => h)
       have n2 := B2.cell 0
       have nf2 := B2.frozen 0
       simp only [List.getElem?_cons_zero] at n2
       have rl2 := B2.lt
       clear B2 ho2 hg2 hat2))
  all_goals
    go_ret
    have hown := O2.out
    have hlen : k + (l.length - (k + 1)) = (l.eraseIdx k).length := by rw [List.length_eraseIdx]; simp [hk]; omega
    have hcat : (l.take k).flatMap Msg.vals ++ (l.drop (k + 1)).flatMap Msg.vals = (l.eraseIdx k).flatMap Msg.vals := by
      rw [List.eraseIdx_eq_take_drop_succ, vals_append]
    have hc3 : (l.eraseIdx k).length ≤ c3 := by rw [← hlen]; exact hc3'
    rw [hcat] at hown
    rw [hlen] at hown ⊢
    have hB2 := HB.out.fr F2.out (fun h => h)
    refine ⟨rfl, ⟨A3, c3, A2, c2, hB2.set_ 0 _, (Sl.of_own hown).far hB2 (by decide) rfl _, hc3, ((HS2.out.fr0 F2.out).far hB2 (by decide) rfl _), hc2⟩, (F2.out.any (· = r)).setCell (.inl rfl) _, ?_⟩
    intro A' n' c' hA' a ha
    rw [(hB2.set_ 0 (.slice A3 (l.eraseIdx k).length c3)).cell 0] at hA'
    simp only [List.set_cons_zero, List.getElem?_cons_zero, Option.some.injEq, Value.slice.injEq] at hA'
    obtain ⟨rfl, _, _⟩ := hA'
    exact (own_size hown a.block (by simp [Value.ownBlock, ha])).1
theorem refLose_any (r : Nat) (l : List Msg) (K : List (Int × Int)) (i : Int) (w : World) (h : RefAt w r l K) (hl : l.length ≤ 1000) :
    Calls Try.prog 77 #[.pointer (some ⟨r, 0, none⟩), .int .i64 i] w fun e w' => e = .returned (.int .i64 (atE i l.length)) ∧ RefAt w' r (if inL i l.length then l.eraseIdx i.toNat else l) K ∧ Fr (· = r) w w' := by
  cases hi : inL i l.length with
  | false =>
    have e : atE i l.length = 30 := by simp [atE, hi]
    rw [e]
    refine (refLose_bad r l K i w h hi).mono ?_
    rintro e w' ⟨rfl, hf⟩
    exact ⟨rfl, h.fr0 hf, hf.any _⟩
  | true =>
    have e : atE i l.length = 0 := by simp [atE, hi]
    rw [e]
    simp only [inL, Bool.and_eq_true, decide_eq_true_eq] at hi
    obtain ⟨k, rfl⟩ := Int.eq_ofNat_of_zero_le hi.1
    rw [Int.toNat_natCast]
    refine (refLose_ok r l K k w h (by omega) hl).mono ?_
    rintro e w' ⟨rfl, h1, h2, _⟩
    exact ⟨rfl, h1, h2⟩
end Go.Proofs.Ytegogggemmcgdaa
