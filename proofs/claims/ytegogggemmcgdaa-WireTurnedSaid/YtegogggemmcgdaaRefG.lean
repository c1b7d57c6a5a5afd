/- ref.Net: Join, Cut. -/
import Derived.Test.YtegogggemmcgdaaRefF
namespace Go.Proofs.Ytegogggemmcgdaa
open Go Go.RowKit Go.Proofs

theorem refLink_info : (Try.prog.info? 178).map (fun i => (i.zero, i.size, i.bytes)) = some (some (.agg #[.int .i64 0, .int .i64 0]), 2, 16) := by kernel_rfl
theorem linkB_flat (a b : Int) : linkB (min a b) (max a b) = (placeB a && (placeB b && (a != b))) := by
  rw [Bool.eq_iff_iff]
  simp only [linkB, placeB, Bool.and_eq_true, decide_eq_true_eq, bne_iff_ne]
  omega
theorem lk_one (l : List (Int × Int)) : ∀ u ∈ l.flatMap lkV, u.oneCell' = true := by
  intro u hu
  obtain ⟨m, _, hm⟩ := List.mem_flatMap.1 hu
  simp only [List.mem_cons, List.not_mem_nil, or_false] at hm
  rcases hm with h | h <;> subst h <;> rfl
def keepK (K : List (Int × Int)) (a b : Int) : List (Int × Int) := K.filter fun c => !hitB a b c
def joinK (K : List (Int × Int)) (a b : Int) : List (Int × Int) := if linkB (min a b) (max a b) then keepK K a b else K
theorem keep_succ {K : List (Int × Int)} {k : Nat} {x : Int × Int} (hx : K[k]? = some x) (a b : Int) : keepK (K.take (k + 1)) a b = keepK (K.take k) a b ++ (if hitB a b x then [] else [x]) := by
  unfold keepK
  rw [List.take_add_one, hx, List.filter_append]
  cases h : hitB a b x <;> simp [h]
structure JSt (w0 : World) (K : List (Int × Int)) (v : Value) (w : World) : Prop where
  row : w.ownsRow w0.heap.size 178 2 v K.length (K.flatMap lkV)
  fr : Fr No w0 w
theorem JSt.grow {w0 w w' : World} {K : List (Int × Int)} {v v' : Value} {x : Int × Int} (h : JSt w0 K v w) (ho : w'.ownsRow w0.heap.size 178 2 v' (K.length + 1) (K.flatMap lkV ++ lkV x)) (hg : w.grownBy w' v.ownBlock) : JSt w0 (K ++ [x]) v' w' := by
  refine ⟨?_, h.fr.grown hg (fun k hk => .inr (own_size h.row k hk).1)⟩
  rw [List.flatMap_append, List.length_append]
  simpa using ho
theorem JSt.fr0 {w0 w w' : World} {K : List (Int × Int)} {v : Value} (h : JSt w0 K v w) (hf : Fr No w w') : JSt w0 K v w' := ⟨own_fr0 h.row hf, h.fr.trans hf⟩
def JRel (w0 : World) (K : List (Int × Int)) (a b : Int) (g : Nat) (v7 v8 : Value) (wr : World) : Prop :=
  ∃ (k : Nat) (v : Value), k + g = K.length ∧ v8 = .int .i64 k ∧ v = v7 ∧ JSt w0 (keepK (K.take k) a b) v wr
set_option maxRecDepth 100000 in
set_option maxHeartbeats 2000000 in
theorem refJoin_bad (r : Nat) (a b : Int) (w : World) (h : linkB (min a b) (max a b) = false) :
    Calls Try.prog 80 #[.pointer (some ⟨r, 0, none⟩), .int .i64 a, .int .i64 b] w fun e w' => e = .returned (.int .i64 1) ∧ Fr No w w' := by
  rw [linkB_flat] at h
  cases h1 : placeB a
  · clear h
    go_enter Try.func80, Try.ntmps80
    go_wp2_with (go_at_call 107; refine (place_any _ _).mono ?_; rintro e w1 ⟨rfl, hw⟩; obtain rfl := hw.symm)
    go_ret
    exact ⟨rfl, Fr.refl _ _⟩
  · cases h2 : placeB b
    · clear h
      go_enter Try.func80, Try.ntmps80
      go_wp2_with (go_at_call 107; refine (place_any _ _).mono ?_; rintro e w1 ⟨rfl, hw⟩; obtain rfl := hw.symm)
      go_ret
      exact ⟨rfl, Fr.refl _ _⟩
    · have h3 : (a == b) = true := by simpa [h1, h2] using h
      clear h
      go_enter Try.func80, Try.ntmps80
      go_wp2_with (go_at_call 107; refine (place_any _ _).mono ?_; rintro e w1 ⟨rfl, hw⟩; obtain rfl := hw.symm)
      go_ret
      exact ⟨rfl, Fr.refl _ _⟩
set_option maxRecDepth 100000 in
set_option maxHeartbeats 4000000 in
theorem refJoin_ok (r : Nat) (l : List Msg) (K : List (Int × Int)) (a b : Int) (w : World) (h : RefAt w r l K) (hK : K.length ≤ 1000) (hl : linkB (min a b) (max a b) = true) :
    Calls Try.prog 80 #[.pointer (some ⟨r, 0, none⟩), .int .i64 a, .int .i64 b] w fun e w' => e = .returned (.int .i64 0) ∧ RefAt w' r l (keepK K a b) ∧ Fr (· = r) w w' := by
  rw [linkB_flat, Bool.and_eq_true, Bool.and_eq_true] at hl
  obtain ⟨h1, h2, h3'⟩ := hl
  have h3 : (a == b) = false := by simpa using h3'
  clear h3'
  have H := Lib.hid h
  have hk0 : (0 : Int) ≤ (K.length : Int) := by omega
  have hk1 : (K.length : Int) ≤ 1000 := by omega
  clear h hK
  obtain ⟨i0, hi0, hz0, hz1, hz2⟩ := info_parts refLink_info
  go_enter Try.func80, Try.ntmps80
  go_wp2_with (go_at_call 107; refine (place_any _ _).mono ?_; rintro e w1 ⟨rfl, hw⟩; obtain rfl := hw.symm)
  go_loopg [7, 8] K.length (fun g v7 v8 wr => JRel w K a b g v7 v8 wr)
  case atStart => exact ⟨0, _, by omega, rfl, rfl, ⟨⟨rfl, .inl ⟨rfl, rfl⟩⟩, Fr.refl _ _⟩⟩
  case round =>
    obtain ⟨k, v, hg, rfl, rfl, ht⟩ := hrel
    have HT := Lib.hid ht
    clear ht
    have hR := H.out.fr0 HT.out.fr
    obtain ⟨A, c, A2, c2, hB, hS, hc, hS2, hc2⟩ := hR
    have n1 := hB.cell 1
    have nf := hB.frozen 1
    simp only [List.getElem?_cons_zero, List.getElem?_cons_succ] at n1
    have rl := hB.lt
    have HB := Lib.hid hB
    have HS := Lib.hid hS
    clear hB hS
    have hkk : (0 : Int) ≤ (k : Int) := by omega
    by_cases hlt : k < K.length
    · have hlt1 : (k : Int) < (K.length : Int) := by omega
      have bK : (keepK (K.take k) a b).length ≤ 1000 := Nat.le_trans (List.length_filter_le _ _) (by rw [List.length_take]; omega)
      obtain ⟨x, hx⟩ : ∃ x, K[k]? = some x := ⟨_, List.getElem?_eq_getElem hlt⟩
      obtain ⟨bb, oo, rfl, hb, x0, x1⟩ := link_cells hS2 hx
      have HX := Lib.hid hx
      clear hx hS2
      cases c1 : (x.1 == a)
      · cases c3 : (x.1 == b)
        · skip
          have HH := Lib.hid (show keepK (K.take (k + 1)) a b = keepK (K.take k) a b ++ [x] by rw [keep_succ HX.out, show hitB a b x = false by simp only [hitB, c1, c3]; rfl]; simp)
          go_wp2_with (at_builtin; go_loud (refine wpList_append_owned' (by rfl) (.tmp 62) (.tmp 64) 84 (by rfl) w.heap.size 178 i0 _ 2 16 Try.underlying84 hi0 hz0 hz1 hz2 rfl (by omega) v (keepK (K.take k) a b).length ((keepK (K.take k) a b).flatMap lkV) (by rfl) (HT.out.fr0 (((Fr.refl No wr).alloc (Obj.cells (lkV x).toArray 178)).alloc (Obj.cells (lkV x).toArray 178))).row (some ⟨wr.heap.size + 1, 0, none⟩) 1 1 178 (lkV x) (by rfl) (by have hsl := Sl.of_new (wr.alloc (Obj.cells (lkV x).toArray 178)) 178 2 1 (lkV x).toArray (lkV x) rfl rfl; simpa only [World.size_alloc] using hsl) (by simpa using lk_one [x]) (by simp only [maxLen]; omega) (by omega) (by have := HT.out.fr.size; simp only [World.size_alloc]; omega) ?_); intro v2 w4 hown2 hg2 hat2)
          have T4 := (HT.out.fr0 (((Fr.refl No wr).alloc (Obj.cells (lkV x).toArray 178)).alloc (Obj.cells (lkV x).toArray 178))).grow (x := x) hown2 hg2
          rw [← HH.out] at T4
          go_roundg (K.length - (k + 1))
          case measure => omega
          case rel => exact ⟨k + 1, v2, by omega, by go_num, rfl, T4⟩
        · cases c4 : (x.2 == a)
          · skip
            have HH := Lib.hid (show keepK (K.take (k + 1)) a b = keepK (K.take k) a b ++ [x] by rw [keep_succ HX.out, show hitB a b x = false by simp only [hitB, c1, c3, c4]; rfl]; simp)
            go_wp2_with (at_builtin; go_loud (refine wpList_append_owned' (by rfl) (.tmp 62) (.tmp 64) 84 (by rfl) w.heap.size 178 i0 _ 2 16 Try.underlying84 hi0 hz0 hz1 hz2 rfl (by omega) v (keepK (K.take k) a b).length ((keepK (K.take k) a b).flatMap lkV) (by rfl) (HT.out.fr0 (((Fr.refl No wr).alloc (Obj.cells (lkV x).toArray 178)).alloc (Obj.cells (lkV x).toArray 178))).row (some ⟨wr.heap.size + 1, 0, none⟩) 1 1 178 (lkV x) (by rfl) (by have hsl := Sl.of_new (wr.alloc (Obj.cells (lkV x).toArray 178)) 178 2 1 (lkV x).toArray (lkV x) rfl rfl; simpa only [World.size_alloc] using hsl) (by simpa using lk_one [x]) (by simp only [maxLen]; omega) (by omega) (by have := HT.out.fr.size; simp only [World.size_alloc]; omega) ?_); intro v2 w4 hown2 hg2 hat2)
            have T4 := (HT.out.fr0 (((Fr.refl No wr).alloc (Obj.cells (lkV x).toArray 178)).alloc (Obj.cells (lkV x).toArray 178))).grow (x := x) hown2 hg2
            rw [← HH.out] at T4
            go_roundg (K.length - (k + 1))
            case measure => omega
            case rel => exact ⟨k + 1, v2, by omega, by go_num, rfl, T4⟩
          · skip
            have HH := Lib.hid (show keepK (K.take (k + 1)) a b = keepK (K.take k) a b by rw [keep_succ HX.out, show hitB a b x = true by simp only [hitB, c1, c3, c4]; rfl]; simp)
            go_wp2
            go_roundg (K.length - (k + 1))
            case measure => omega
            case rel => exact ⟨k + 1, v, by omega, by go_num, rfl, by rw [HH.out]; exact HT.out.fr0 ((Fr.refl No wr).alloc _)⟩
      · cases c2' : (x.2 == b)
        · cases c3 : (x.1 == b)
          · skip
            have HH := Lib.hid (show keepK (K.take (k + 1)) a b = keepK (K.take k) a b ++ [x] by rw [keep_succ HX.out, show hitB a b x = false by simp only [hitB, c1, c2', c3]; rfl]; simp)
            go_wp2_with (at_builtin; go_loud (refine wpList_append_owned' (by rfl) (.tmp 62) (.tmp 64) 84 (by rfl) w.heap.size 178 i0 _ 2 16 Try.underlying84 hi0 hz0 hz1 hz2 rfl (by omega) v (keepK (K.take k) a b).length ((keepK (K.take k) a b).flatMap lkV) (by rfl) (HT.out.fr0 (((Fr.refl No wr).alloc (Obj.cells (lkV x).toArray 178)).alloc (Obj.cells (lkV x).toArray 178))).row (some ⟨wr.heap.size + 1, 0, none⟩) 1 1 178 (lkV x) (by rfl) (by have hsl := Sl.of_new (wr.alloc (Obj.cells (lkV x).toArray 178)) 178 2 1 (lkV x).toArray (lkV x) rfl rfl; simpa only [World.size_alloc] using hsl) (by simpa using lk_one [x]) (by simp only [maxLen]; omega) (by omega) (by have := HT.out.fr.size; simp only [World.size_alloc]; omega) ?_); intro v2 w4 hown2 hg2 hat2)
            have T4 := (HT.out.fr0 (((Fr.refl No wr).alloc (Obj.cells (lkV x).toArray 178)).alloc (Obj.cells (lkV x).toArray 178))).grow (x := x) hown2 hg2
            rw [← HH.out] at T4
            go_roundg (K.length - (k + 1))
            case measure => omega
            case rel => exact ⟨k + 1, v2, by omega, by go_num, rfl, T4⟩
          · cases c4 : (x.2 == a)
            · skip
              have HH := Lib.hid (show keepK (K.take (k + 1)) a b = keepK (K.take k) a b ++ [x] by rw [keep_succ HX.out, show hitB a b x = false by simp only [hitB, c1, c2', c3, c4]; rfl]; simp)
              go_wp2_with (at_builtin; go_loud (refine wpList_append_owned' (by rfl) (.tmp 62) (.tmp 64) 84 (by rfl) w.heap.size 178 i0 _ 2 16 Try.underlying84 hi0 hz0 hz1 hz2 rfl (by omega) v (keepK (K.take k) a b).length ((keepK (K.take k) a b).flatMap lkV) (by rfl) (HT.out.fr0 (((Fr.refl No wr).alloc (Obj.cells (lkV x).toArray 178)).alloc (Obj.cells (lkV x).toArray 178))).row (some ⟨wr.heap.size + 1, 0, none⟩) 1 1 178 (lkV x) (by rfl) (by have hsl := Sl.of_new (wr.alloc (Obj.cells (lkV x).toArray 178)) 178 2 1 (lkV x).toArray (lkV x) rfl rfl; simpa only [World.size_alloc] using hsl) (by simpa using lk_one [x]) (by simp only [maxLen]; omega) (by omega) (by have := HT.out.fr.size; simp only [World.size_alloc]; omega) ?_); intro v2 w4 hown2 hg2 hat2)
              have T4 := (HT.out.fr0 (((Fr.refl No wr).alloc (Obj.cells (lkV x).toArray 178)).alloc (Obj.cells (lkV x).toArray 178))).grow (x := x) hown2 hg2
              rw [← HH.out] at T4
              go_roundg (K.length - (k + 1))
              case measure => omega
              case rel => exact ⟨k + 1, v2, by omega, by go_num, rfl, T4⟩
            · skip
              have HH := Lib.hid (show keepK (K.take (k + 1)) a b = keepK (K.take k) a b by rw [keep_succ HX.out, show hitB a b x = true by simp only [hitB, c1, c2', c3, c4]; rfl]; simp)
              go_wp2
              go_roundg (K.length - (k + 1))
              case measure => omega
              case rel => exact ⟨k + 1, v, by omega, by go_num, rfl, by rw [HH.out]; exact HT.out.fr0 ((Fr.refl No wr).alloc _)⟩
        · skip
          have HH := Lib.hid (show keepK (K.take (k + 1)) a b = keepK (K.take k) a b by rw [keep_succ HX.out, show hitB a b x = true by simp only [hitB, c1, c2']; rfl]; simp)
          go_wp2
          go_roundg (K.length - (k + 1))
          case measure => omega
          case rel => exact ⟨k + 1, v, by omega, by go_num, rfl, by rw [HH.out]; exact HT.out.fr0 ((Fr.refl No wr).alloc _)⟩
    · obtain rfl : k = K.length := by omega
      rw [List.take_length] at HT
      obtain ⟨A3, c3, rfl, hc3⟩ := own_shape HT.out.row
      go_wp2
      go_ret
      refine ⟨rfl, ⟨A, c, A3, c3, HB.out.set_ 1 _, HS.out.far HB.out (by decide) rfl _, hc, (Sl.of_own HT.out.row).far HB.out (by decide) rfl _, hc3⟩, (HT.out.fr.any (· = r)).setCell (.inl rfl) _⟩
end Go.Proofs.Ytegogggemmcgdaa
