/- ref.Net: Join and Cut whatever the places, First. -/
import Derived.Test.YtegogggemmcgdaaRefG
namespace Go.Proofs.Ytegogggemmcgdaa
open Go Go.RowKit Go.Proofs

theorem lk_len (l : List (Int × Int)) : (l.flatMap lkV).length = l.length * 2 := by
  induction l with
  | nil => rfl
  | cons m l ih => simp only [List.flatMap_cons, List.length_append, ih, List.length_cons, List.length_nil]; omega
theorem refJoin_any (r : Nat) (l : List Msg) (K : List (Int × Int)) (a b : Int) (w : World) (h : RefAt w r l K) (hK : K.length ≤ 1000) :
    Calls Try.prog 80 #[.pointer (some ⟨r, 0, none⟩), .int .i64 a, .int .i64 b] w fun e w' => e = .returned (.int .i64 (turnE a b)) ∧ RefAt w' r l (joinK K a b) ∧ Fr (· = r) w w' := by
  cases hl : linkB (min a b) (max a b) with
  | false =>
    have e1 : turnE a b = 1 := by simp [turnE, hl]
    have e2 : joinK K a b = K := by simp [joinK, hl]
    rw [e1, e2]
    refine (refJoin_bad r a b w hl).mono ?_
    rintro e w' ⟨rfl, hf⟩
    exact ⟨rfl, h.fr0 hf, hf.any _⟩
  | true =>
    have e1 : turnE a b = 0 := by simp [turnE, hl]
    have e2 : joinK K a b = keepK K a b := by simp [joinK, hl]
    rw [e1, e2]
    exact refJoin_ok r l K a b w h hK hl
def cutK (K : List (Int × Int)) (a b : Int) : List (Int × Int) := if linkB (min a b) (max a b) then keepK K a b ++ [(a, b)] else K
set_option maxRecDepth 100000 in
set_option maxHeartbeats 2000000 in
theorem refCut_any (r : Nat) (l : List Msg) (K : List (Int × Int)) (a b : Int) (w : World) (h : RefAt w r l K) (hK : K.length ≤ 1000) :
    Calls Try.prog 79 #[.pointer (some ⟨r, 0, none⟩), .int .i64 a, .int .i64 b] w fun e w' => e = .returned (.int .i64 (turnE a b)) ∧ RefAt w' r l (cutK K a b) ∧ Fr (· = r) w w' := by
  cases hl : linkB (min a b) (max a b) with
  | false =>
    have e1 : turnE a b = 1 := by simp [turnE, hl]
    have e2 : cutK K a b = K := by simp [cutK, hl]
    rw [e1, e2]
    clear e1 e2
    have H := Lib.hid h
    have HL := Lib.hid hl
    clear h hl
    go_enter Try.func79, Try.ntmps79
    go_wp2_with (go_at_call 80; refine (refJoin_bad r a b _ HL.out).mono ?_; rintro e w1 ⟨rfl, hf1⟩)
    go_ret
    exact ⟨rfl, H.out.fr0 hf1, hf1.any _⟩
  | true =>
    have e1 : turnE a b = 0 := by simp [turnE, hl]
    have e2 : cutK K a b = keepK K a b ++ [(a, b)] := by simp [cutK, hl]
    rw [e1, e2]
    clear e1 e2
    have hk : (keepK K a b).length ≤ 1000 := Nat.le_trans (List.length_filter_le _ _) hK
    have H := Lib.hid h
    have HL := Lib.hid hl
    have HK := Lib.hid hK
    clear h hl hK
    obtain ⟨K1, hK1⟩ : ∃ K1, K1 = keepK K a b := ⟨_, rfl⟩
    rw [← hK1] at hk ⊢
    have HK1 := Lib.hid hK1
    clear hK1
    have hk0 : (0 : Int) ≤ (K1.length : Int) := by omega
    have hk1 : (K1.length : Int) ≤ 1000 := by omega
    obtain ⟨i0, hi0, hz0, hz1, hz2⟩ := info_parts refLink_info
    go_enter Try.func79, Try.ntmps79
    go_wp2_with (go_at_call 80; refine (refJoin_ok r l K a b _ H.out HK.out HL.out).mono ?_; rintro e w1 ⟨rfl, hn1, hf1⟩
                 rw [← HK1.out] at hn1
                 obtain ⟨A, c, A2, c2, hB, hS, hc, hS2, hc2⟩ := hn1
                 have n1 := hB.cell 1
                 simp only [List.getElem?_cons_zero, List.getElem?_cons_succ] at n1
                 have nf := hB.frozen 1
                 have rl := hB.lt
                 have hn3 : (K1.length : Int) ≤ (c2 : Int) := by omega
                 have F1 := Lib.hid hf1
                 have HB := Lib.hid hB
                 have HS := Lib.hid hS
                 have HS2 := Lib.hid hS2
                 clear hB hS hS2 hf1)
    refine wp_region_o [(0, 0), (1, 0), (2, 0), (3, 0), (5, 0), (6, 0), (7, 0), (10, 0), (11, 0), (12, 0), (16, 0), (17, 0), (18, 0), (4, 1), (8, 1), (9, 1), (13, 1), (14, 1), (15, 0), (19, 2), (20, 2), (21, 0), (22, 0), (23, 3)] (by kernel_rfl) (by kernel_rfl) ?_
    repeat (first
      | (apply wpO_pure rfl rfl; (focus (intro w'; go_simp; (try rfl); done)); try simp only [Act.put, List.setIfInBounds_toArray, List.set_cons_zero, List.set_cons_succ])
      | (apply wpO_read rfl rfl; (focus (intro w' hf' hs'; (try simp only [World.size_drew, World.cell?_drew, World.size_alloc, World.size_setCell] at hs'); go_simp; (try rfl); done)); try simp only [Act.put, List.setIfInBounds_toArray, List.set_cons_zero, List.set_cons_succ])
      | (apply wpO_skip (by decide) rfl rfl; try simp only [Act.put, List.setIfInBounds_toArray, List.set_cons_zero, List.set_cons_succ]))
    refine wpO_loudE rfl fun K hK => ?_
    go_simp
    refine hK _ _ ⟨by (repeat (first | exact Fr.refl _ _ | assumption | refine Fr.drew ?_ | refine Fr.alloc ?_ _ | refine Fr.drewL ?_)), ?_⟩
    clear hK K
    repeat (first
      | (apply wpO_pure rfl rfl; (focus (intro w'; go_simp; (try rfl); done)); try simp only [Act.put, List.setIfInBounds_toArray, List.set_cons_zero, List.set_cons_succ])
      | (apply wpO_read rfl rfl; (focus (intro w' hf' hs'; (try simp only [World.size_drew, World.cell?_drew, World.size_alloc, World.size_setCell] at hs'); go_simp; (try rfl); done)); try simp only [Act.put, List.setIfInBounds_toArray, List.set_cons_zero, List.set_cons_succ])
      | (apply wpO_skip (by decide) rfl rfl; try simp only [Act.put, List.setIfInBounds_toArray, List.set_cons_zero, List.set_cons_succ]))
    refine wpO_loudE rfl fun K' hK => ?_
    refine step_append_new rfl _ _ 84 rfl 178 i0 _ 2 16 Try.underlying84 hi0 hz0 hz1 hz2 rfl A2 K1.length K1.length (K1.flatMap lkV) rfl (HS2.out.alloc _).drew (some ⟨w1.heap.size, 0, none⟩) 1 1 178 (lkV (a, b)) rfl (Sl.of_new w1 178 2 1 (lkV (a, b)).toArray (lkV (a, b)) rfl rfl).drew (by omega) (by omega) (by simp only [maxLen]; omega) (by omega) ?_
    intro cap cur g1 g2 g3 g4
    refine hK _ _ ⟨by (repeat (first | exact Fr.refl _ _ | assumption | refine Fr.drew ?_ | refine Fr.alloc ?_ _ | refine Fr.drewL ?_)), ?_⟩
    clear hK K'
    try simp only [Act.put, List.setIfInBounds_toArray, List.set_cons_zero, List.set_cons_succ]
    repeat (first
      | (apply wpO_pure rfl rfl; (focus (intro w'; go_simp; (try rfl); done)); try simp only [Act.put, List.setIfInBounds_toArray, List.set_cons_zero, List.set_cons_succ])
      | (apply wpO_read rfl rfl; (focus (intro w' hf' hs'; (try simp only [World.size_drew, World.cell?_drew, World.size_alloc, World.size_setCell] at hs'); go_simp; (try rfl); done)); try simp only [Act.put, List.setIfInBounds_toArray, List.set_cons_zero, List.set_cons_succ])
      | (apply wpO_skip (by decide) rfl rfl; try simp only [Act.put, List.setIfInBounds_toArray, List.set_cons_zero, List.set_cons_succ]))
    refine wpO_loud rfl fun K' hK => ?_
    go_simp
    refine hK _ _ (wpO_nil ?_)
    clear hK K'
    go_wp2
    go_ret
    have hb2 := ((HB.out.set_ 1 (.slice (some ⟨w1.heap.size + 1, 0, none⟩) (K1.length + 1) cap)).alloc (Obj.cells (lkV (a, b)).toArray 178)).alloc (.cells cur 178)
    have hs2 := Sl.of_new ((w1.setCell ⟨r, 1, none⟩ (.slice (some ⟨w1.heap.size + 1, 0, none⟩) (K1.length + 1) cap)).alloc (Obj.cells (lkV (a, b)).toArray 178)) 178 2 (K1.length + 1) cur _ (by rw [List.length_append, lk_len]; simp; omega) g4
    have hk2 := ((HS.out.far HB.out (by decide) (p := ⟨r, 1, none⟩) rfl (.slice (some ⟨w1.heap.size + 1, 0, none⟩) (K1.length + 1) cap)).alloc (Obj.cells (lkV (a, b)).toArray 178)).alloc (.cells cur 178)
    refine ⟨rfl, ⟨A, c, some ⟨w1.heap.size + 1, 0, none⟩, cap, ?_, hk2, hc, ?_, ?_⟩, ?_⟩
    · simp only [List.length_append, List.length_cons, List.length_nil, Nat.zero_add]
      exact hb2.drew.drew
    · simp only [World.size_alloc, World.size_setCell] at hs2
      simp only [List.length_append, List.length_cons, List.length_nil, Nat.zero_add, List.flatMap_append, List.flatMap_cons, List.flatMap_nil, List.append_nil]
      exact hs2.drew.drew
    · simpa using g1
    · exact Fr.drew (Fr.drew (Fr.alloc (Fr.alloc (Fr.setCell F1.out (.inl rfl) _) _) _))

/-! ### First -/
def refGoes (K : List (Int × Int)) : List Msg → Nat → Int
  | [], _ => -1
  | x :: r, k => if refCut K x then refGoes K r (k + 1) else k
def RfRel (w0 : World) (l : List Msg) (K : List (Int × Int)) (g : Nat) (v3 : Value) (w : World) : Prop :=
  ∃ k : Nat, k + g = l.length ∧ v3 = .int .i64 k ∧ refGoes K l 0 = refGoes K (l.drop k) k ∧ Fr No w0 w
set_option maxRecDepth 100000 in
set_option maxHeartbeats 2000000 in
theorem refFirst_any (r : Nat) (l : List Msg) (K : List (Int × Int)) (w : World) (h : RefAt w r l K) (hl : l.length ≤ 1000) (hK : K.length ≤ 1000) :
    Calls Try.prog 45 #[.pointer (some ⟨r, 0, none⟩)] w fun e w' => e = .returned (.int .i64 (refGoes K l 0)) ∧ Fr No w w' := by
  have H := Lib.hid h
  have HK := Lib.hid hK
  have hl0 : (0 : Int) ≤ (l.length : Int) := by omega
  have hl1 : (l.length : Int) ≤ 1000 := by omega
  clear h hK hl
  go_enter Try.func45, Try.ntmps45
  go_wp2
  go_loopg [3] l.length (fun g v3 wr => RfRel w l K g v3 wr)
  case atStart => exact ⟨0, by omega, rfl, rfl, Fr.refl _ _⟩
  case round =>
    obtain ⟨k, hg, rfl, hgo, hfr⟩ := hrel
    have HG := Lib.hid hgo
    have HF := Lib.hid hfr
    have HR := Lib.hid (H.out.fr0 hfr)
    clear hgo hfr
    obtain ⟨A, c, A2, c2, hB, hS, hc, hS2, hc2⟩ := HR.out
    have n0 := hB.cell 0
    simp only [List.getElem?_cons_zero] at n0
    have rl := hB.lt
    clear hB hS2
    have hkk : (0 : Int) ≤ (k : Int) := by omega
    by_cases hlt : k < l.length
    · have hlt1 : (k : Int) < (l.length : Int) := by omega
      obtain ⟨x, hx⟩ : ∃ x, l[k]? = some x := ⟨_, List.getElem?_eq_getElem hlt⟩
      obtain ⟨b, o, rfl, hb, ⟨m0, m1, m2, m3, m4, m5, m6, m7⟩⟩ := msg_cells hS hx
      have hd : l.drop k = x :: l.drop (k + 1) := by
        rw [List.drop_eq_getElem_cons hlt]
        rw [List.getElem?_eq_getElem hlt] at hx
        injection hx with hx
        rw [hx]
      have HD := Lib.hid hd
      clear hx hS hd
      cases hcut : refCut K x
      · go_wp2_with (go_at_call 83; refine (refOpen_any r l K x _ HR.out HK.out).mono ?_; rintro e w2 ⟨rfl, hf2⟩)
        go_ret
        exact ⟨ret_int (by rw [HG.out, HD.out]; simp [refGoes, hcut]), HF.out.trans hf2⟩
      · go_wp2_with (go_at_call 83; refine (refOpen_any r l K x _ HR.out HK.out).mono ?_; rintro e w2 ⟨rfl, hf2⟩)
        go_roundg (l.length - (k + 1))
        case measure => omega
        case rel => exact ⟨k + 1, by omega, by go_num, by rw [HG.out, HD.out]; simp [refGoes, hcut], HF.out.trans hf2⟩
    · obtain rfl : k = l.length := by omega
      go_wp2
      go_ret
      exact ⟨ret_int (by rw [HG.out]; simp [refGoes]), HF.out⟩
end Go.Proofs.Ytegogggemmcgdaa
