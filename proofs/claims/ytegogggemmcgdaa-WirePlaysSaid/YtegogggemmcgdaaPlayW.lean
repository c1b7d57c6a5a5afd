/- WirePlays: the walk of the law's function. -/
import Derived.Test.YtegogggemmcgdaaPlayH
namespace Go.Proofs.Ytegogggemmcgdaa
open Go Go.RowKit Go.Proofs

theorem PSt.fr0 {p m r : Nat} {l : List Msg} {C : Cuts} {K : List (Int × Int)} {w w' : World} (h : PSt p m r l C K w) (hf : Fr No w w') : PSt p m r l C K w' := ⟨h.net.fr0 hf, h.ref.fr0 hf, h.sync, h.few, h.fewK⟩
theorem goes_eq {l : List Msg} {C : Cuts} {K : List (Int × Int)} (h : Sync C K) : firstI l C = refGoes K l 0 := h.goes l 0
theorem RefAt.start (w : World) : RefAt (w.alloc (Obj.cells #[.slice none 0 0, .slice none 0 0] 86)) w.heap.size [] [] :=
  ⟨none, 0, none, 0, Blk.new w 86 [.slice none 0 0, .slice none 0 0], Sl.nil _ _ _ _, Nat.le_refl _, Sl.nil _ _ _ _, Nat.le_refl _⟩
def PWRel (w0 : World) (p m r : Nat) (g : Nat) (v5 : Value) (wr : World) : Prop :=
  ∃ (k : Nat) (l : List Msg) (C : Cuts) (K : List (Int × Int)), k + g = 120 ∧ v5 = .int .i64 k ∧ K.length ≤ k ∧ PSt p m r l C K wr ∧ Fr No w0 wr
/-- a row of the call's own, whatever its cells hold -/
def Row (w : World) (b N : Nat) : Prop := ∃ cur, w.heap[b]? = some (.cells cur 28 (0, 0)) ∧ cur.size = N
theorem Row.cell {w : World} {b N : Nat} (h : Row w b N) (i : Nat) (hi : i < N) : (∃ u, w.cell? ⟨b, i, none⟩ = some u) ∧ w.frozen? ⟨b, i, none⟩ = false ∧ b < w.heap.size := by
  obtain ⟨cur, h1, h2⟩ := h
  refine ⟨⟨cur[i], ?_⟩, ?_, lt_of_heap h1⟩
  · rw [cell_of_row w b i cur _ _ h1]
    exact Array.getElem?_eq_getElem (by omega)
  · simp [World.frozen?, h1]
theorem Row.set {w : World} {b N : Nat} (h : Row w b N) (i : Nat) (u : Value) : Row (w.setCell ⟨b, i, none⟩ u) b N := by
  obtain ⟨cur, h1, h2⟩ := h
  exact ⟨cur.setIfInBounds i u, by simp [World.setCell, Array.getElem?_modify, h1], by simpa using h2⟩
theorem Row.fr0 {w w' : World} {b N : Nat} (h : Row w b N) (hf : Fr No w w') : Row w' b N := by
  obtain ⟨cur, h1, h2⟩ := h
  exact ⟨cur, (hf.block b (lt_of_heap h1) (fun h => h)).trans h1, h2⟩
theorem row_of_own {w : World} {base n cap b : Nat} {xs : List Value} (h : w.ownsRow base 28 8 (.slice (some ⟨b, 0, none⟩) n cap) n xs) : ∃ N, n * 8 ≤ N ∧ Row w b N ∧ base ≤ b := by
  rcases h.2 with ⟨h0, _⟩ | ⟨g, c, cur, hv, hb, hg, hn, _, hc, _⟩
  · cases h0
  · injection hv with h1 h2 h3
    injection h1 with h1
    injection h1 with h1
    subst h1
    exact ⟨cur.size, by rw [hc]; omega, ⟨cur, hg, rfl⟩, hb⟩
theorem own_some {w : World} {base n : Nat} {A : Option Addr} {cap : Nat} {xs : List Value} (h : w.ownsRow base 28 8 (.slice A n cap) n xs) (hn : 0 < n) : ∃ b, A = some ⟨b, 0, none⟩ := by
  rcases h.2 with ⟨_, h0⟩ | ⟨g, c, cur, hv, _⟩
  · omega
  · injection hv with h1 h2 h3
    exact ⟨g, h1⟩

set_option maxRecDepth 100000 in
set_option maxHeartbeats 4000000 in
theorem wirePlays_walk (A0 : Option Addr) (c0 : Nat) (e0 : TypeId) (xs : List AAct) (w : World) (hx : Sl w e0 11 A0 xs.length (xs.flatMap AAct.vals)) (hxm : xs.length ≤ maxLen) :
    Calls Try.prog 9 #[.slice A0 xs.length c0] w fun e w' => e = .returned (.bool true) ∧ Fr No w w' := by
  have HX := Lib.hid hx
  have hx1 : (0 : Int) ≤ (xs.length : Int) := by omega
  have hx2 : (xs.length : Int) ≤ 9223372036854775807 := by simp only [maxLen] at hxm; omega
  clear hx hxm
  go_enter Try.func9, Try.ntmps9
  go_wp2_with (go_at_call 13; refine (new_any _).mono ?_; rintro e w1 ⟨p, m, rfl, hp, hm, N1, F1⟩; have HN1 := Lib.hid N1; have HF1 := Lib.hid F1; have HP := Lib.hid hp; have HM := Lib.hid hm; clear N1 F1 hp hm)
  have HS0 := Lib.hid (PSt.mk (r := w1.heap.size) (HN1.out.alloc (Obj.cells #[.slice none 0 0, .slice none 0 0] 86)) (RefAt.start w1) Sync.start (by simp) (by simp))
  have HF0 := Lib.hid (HF1.out.alloc (Obj.cells #[.slice none 0 0, .slice none 0 0] 86))
  have HR := Lib.hid HF1.out.size
  obtain ⟨r, hr⟩ : ∃ r, r = w1.heap.size := ⟨_, rfl⟩
  rw [← hr] at HS0 HR
  rw [← hr]
  go_loopg [5] 120 (fun g v5 wr => PWRel w p m r g v5 wr)
  case atStart => exact ⟨0, [], [], [], rfl, rfl, by simp, HS0.out, HF0.out⟩
  case round =>
    clear HS0 HF0 HN1 HF1 hr
    obtain ⟨k, l, C, K, hg, rfl, hK, hst, hfr⟩ := hrel
    have HST := Lib.hid hst
    have HFR := Lib.hid hfr
    have hk0 : (0 : Int) ≤ (k : Int) := by omega
    clear hst hfr
    by_cases hlt : k < xs.length ∧ k < 120
    · obtain ⟨hlt1, hlt2⟩ := hlt
      have hk1 : (k : Int) < (xs.length : Int) := by omega
      have hk2 : (k : Int) < 120 := by omega
      obtain ⟨x, hxk⟩ : ∃ x, xs[k]? = some x := ⟨_, List.getElem?_eq_getElem hlt1⟩
      obtain ⟨b, o, hA, hb, ⟨m0, m1, m2, m3, m4, m5, m6, m7, m8, m9, m10⟩⟩ := act_cells (HX.out.fr0 HFR.out) hxk
      subst hA
      clear hxk
      go_wp2_with (first
        | (go_at_call 41; refine (do_any p m r l C K x _ HST.out (by omega)).mono ?_; rintro e w2 ⟨rfl, hf2, l2, C2, K2, hs2, hk2'⟩; have F2 := Lib.hid (HFR.out.step hf2 (fun i hi => .inr (by rcases hi with rfl | rfl | rfl; exact HP.out; exact HM.out; exact HR.out))); have S2 := Lib.hid hs2; clear hf2 hs2 m0 m1 m2 m3 m4 m5 m6 m7 m8 m9 m10 HST HFR)
        | (go_at_call 42; refine (list_any p m l2 C2 _ S2.out.net (by have := S2.out.few; omega)).mono ?_; rintro e w3 ⟨v, rfl, ho3, hf3⟩; obtain ⟨A3, c3, rfl, hc3⟩ := own_shape ho3; have F3 := Lib.hid hf3; have O3 := Lib.hid ho3; clear hf3 ho3 hc3))
      have hl64 := S2.out.few
      have S3 := Lib.hid (S2.out.fr0 F3.out)
      have HF1 := Lib.hid (first_any p m l2 C2)
      have HF2 := Lib.hid (refFirst_any r l2 K2)
      rw [goes_eq S2.out.sync] at HF1
      obtain ⟨gi, hgi⟩ : ∃ gi, gi = refGoes K2 l2 0 := ⟨_, rfl⟩
      rw [← hgi] at HF1 HF2
      clear hgi
      obtain ⟨Ar, cr, Ak, ck, hBr, hSr, _, _, _⟩ := S3.out.ref
      have n0 := hBr.cell 0
      have nr := hBr.lt
      simp only [List.getElem?_cons_zero] at n0
      have HSR := Lib.hid hSr
      clear hBr hSr
      have hfK := S2.out.fewK
      refine wp_region_o [(0, 0), (2, 0), (3, 0), (4, 0), (5, 1), (1, 2), (6, 2), (7, 0), (8, 0), (9, 0), (11, 0), (12, 0), (13, 0), (14, 1), (15, 1), (10, 2), (16, 0), (17, 0), (18, 0), (19, 0), (21, 0), (20, 2), (22, 2), (23, 0), (24, 0)] (by kernel_rfl) (by kernel_rfl) ?_
      repeat (first
        | (apply wpO_pure rfl rfl; (focus (intro w'; go_simp; (try rfl); done)); try simp only [Act.put, List.setIfInBounds_toArray, List.set_cons_zero, List.set_cons_succ])
        | (apply wpO_read rfl rfl; (focus (intro w' hf' hs'; (try simp only [World.size_drew, World.cell?_drew, World.size_alloc, World.size_setCell] at hs'); go_simp; (try rfl); done)); try simp only [Act.put, List.setIfInBounds_toArray, List.set_cons_zero, List.set_cons_succ])
        | (apply wpO_skip (by decide) rfl rfl; try simp only [Act.put, List.setIfInBounds_toArray, List.set_cons_zero, List.set_cons_succ]))
      refine wpO_loudE rfl fun K hK => ?_
      go_simp
      refine (all_any A3 c3 l2 _ (Sl.of_own O3.out).drew (by omega)).mono ?_
      rintro e w4 ⟨A4, c4, rfl, hs4, hf4⟩
      refine hK _ _ ⟨hf4, ?_⟩
      clear hK K
      have F4 := Lib.hid ((Fr.refl No w3).drew.trans hf4)
      have S4 := Lib.hid hs4
      clear hf4 hs4
      repeat (first
        | (apply wpO_pure rfl rfl; (focus (intro w'; go_simp; (try rfl); done)); try simp only [Act.put, List.setIfInBounds_toArray, List.set_cons_zero, List.set_cons_succ])
        | (apply wpO_read rfl rfl; (focus (intro w' hf' hs'; (try simp only [World.size_drew, World.cell?_drew, World.size_alloc, World.size_setCell] at hs'); go_simp; (try rfl); done)); try simp only [Act.put, List.setIfInBounds_toArray, List.set_cons_zero, List.set_cons_succ])
        | (apply wpO_skip (by decide) rfl rfl; try simp only [Act.put, List.setIfInBounds_toArray, List.set_cons_zero, List.set_cons_succ]))
      refine wpO_loudE rfl fun K hK => ?_
      go_simp
      refine (same_any A4 Ar c4 cr l2 _ S4.out (HSR.out.fr0 F4.out) (by omega)).mono ?_
      rintro e w5 ⟨rfl, hf5⟩
      refine hK _ _ ⟨hf5, ?_⟩
      clear hK K
      have F5 := Lib.hid (F4.out.trans hf5)
      have n1 := (hf5.cells r 0 (by have := F4.out.size; omega)).trans ((F4.out.cells r 0 nr).trans n0)
      have nr1 := Nat.lt_of_lt_of_le nr F5.out.size
      clear hf5
      repeat (first
        | (apply wpO_pure rfl rfl; (focus (intro w'; go_simp; (try rfl); done)); try simp only [Act.put, List.setIfInBounds_toArray, List.set_cons_zero, List.set_cons_succ])
        | (apply wpO_read rfl rfl; (focus (intro w' hf' hs'; (try simp only [World.size_drew, World.cell?_drew, World.size_alloc, World.size_setCell] at hs'); go_simp; (try rfl); done)); try simp only [Act.put, List.setIfInBounds_toArray, List.set_cons_zero, List.set_cons_succ])
        | (apply wpO_skip (by decide) rfl rfl; try simp only [Act.put, List.setIfInBounds_toArray, List.set_cons_zero, List.set_cons_succ]))
      refine wpO_loudE rfl fun K hK => ?_
      go_simp
      refine (len_any p m l2 C2 _ (S3.out.net.fr0 F5.out)).mono ?_
      rintro e w6 ⟨rfl, hf6⟩
      refine hK _ _ ⟨hf6, ?_⟩
      clear hK K
      have F6 := Lib.hid (F5.out.trans hf6)
      clear hf6
      repeat (first
        | (apply wpO_pure rfl rfl; (focus (intro w'; go_simp; (try rfl); done)); try simp only [Act.put, List.setIfInBounds_toArray, List.set_cons_zero, List.set_cons_succ])
        | (apply wpO_read rfl rfl; (focus (intro w' hf' hs'; (try simp only [World.size_drew, World.cell?_drew, World.size_alloc, World.size_setCell] at hs'); go_simp; (try rfl); done)); try simp only [Act.put, List.setIfInBounds_toArray, List.set_cons_zero, List.set_cons_succ])
        | (apply wpO_skip (by decide) rfl rfl; try simp only [Act.put, List.setIfInBounds_toArray, List.set_cons_zero, List.set_cons_succ]))
      refine wpO_loudE rfl fun K hK => ?_
      go_simp
      refine (HF1.out _ (S3.out.net.fr0 F6.out) (by omega)).mono ?_
      rintro e w7 ⟨rfl, hf7⟩
      refine hK _ _ ⟨hf7, ?_⟩
      clear hK K
      have F7 := Lib.hid (F6.out.trans hf7)
      clear hf7
      repeat (first
        | (apply wpO_pure rfl rfl; (focus (intro w'; go_simp; (try rfl); done)); try simp only [Act.put, List.setIfInBounds_toArray, List.set_cons_zero, List.set_cons_succ])
        | (apply wpO_read rfl rfl; (focus (intro w' hf' hs'; (try simp only [World.size_drew, World.cell?_drew, World.size_alloc, World.size_setCell] at hs'); go_simp; (try rfl); done)); try simp only [Act.put, List.setIfInBounds_toArray, List.set_cons_zero, List.set_cons_succ])
        | (apply wpO_skip (by decide) rfl rfl; try simp only [Act.put, List.setIfInBounds_toArray, List.set_cons_zero, List.set_cons_succ]))
      refine wpO_loudE rfl fun K hK => ?_
      go_simp
      refine (HF2.out _ (S3.out.ref.fr0 F7.out) (by omega) (by omega)).mono ?_
      rintro e w8 ⟨rfl, hf8⟩
      refine hK _ _ ⟨hf8, ?_⟩
      clear hK K
      have F8 := Lib.hid (F7.out.trans hf8)
      clear hf8
      repeat (first
        | (apply wpO_pure rfl rfl; (focus (intro w'; go_simp; (try rfl); done)); try simp only [Act.put, List.setIfInBounds_toArray, List.set_cons_zero, List.set_cons_succ])
        | (apply wpO_read rfl rfl; (focus (intro w' hf' hs'; (try simp only [World.size_drew, World.cell?_drew, World.size_alloc, World.size_setCell] at hs'); go_simp; (try rfl); done)); try simp only [Act.put, List.setIfInBounds_toArray, List.set_cons_zero, List.set_cons_succ])
        | (apply wpO_skip (by decide) rfl rfl; try simp only [Act.put, List.setIfInBounds_toArray, List.set_cons_zero, List.set_cons_succ]))
      refine wpO_nil ?_
      go_wp2
      have hl0 : (0 : Int) ≤ (l2.length : Int) := by omega
      have hl1 : (l2.length : Int) ≤ 64 := by omega
      clear n0 n1 nr nr1 HF1 HF2 F5 F6 F7
      go_loopg [7] l2.length (fun g v7 wq => ∃ j : Nat, j + g = l2.length ∧ v7 = .int .i64 j ∧ Fr No w2 wq ∧ (0 < l2.length → ∃ b N, A3 = some ⟨b, 0, none⟩ ∧ l2.length * 8 ≤ N ∧ Row wq b N ∧ w2.heap.size ≤ b))
      case atStart =>
        refine ⟨0, by omega, rfl, F3.out.trans F8.out, fun hpos => ?_⟩
        obtain ⟨b3, rfl⟩ := own_some O3.out hpos
        obtain ⟨N, hN, hrow, hb3⟩ := row_of_own O3.out
        exact ⟨b3, N, rfl, hN, hrow.fr0 F8.out, hb3⟩
      case round =>
        obtain ⟨j, hgj, rfl, hfj, hrj⟩ := hrel
        have HFJ := Lib.hid hfj
        clear hfj
        have hj0 : (0 : Int) ≤ (j : Int) := by omega
        by_cases hjl : j < l2.length
        · have hj1 : (j : Int) < (l2.length : Int) := by omega
          obtain ⟨b3, N, rfl, hN, hrow, hb3⟩ := hrj (by omega)
          obtain ⟨⟨u3, q0⟩, q1, q2⟩ := hrow.cell (j * 8 + 3) (by omega)
          have HROW := Lib.hid hrow
          clear hrow hrj
          go_wp2
          go_roundg (l2.length - (j + 1))
          case measure => omega
          case rel => exact ⟨j + 1, by omega, by go_num, HFJ.out.setCell (.inr hb3) _, fun _ => ⟨b3, N, rfl, hN, HROW.out.set _ _, hb3⟩⟩
        · have hj1 : (l2.length : Int) ≤ (j : Int) := by omega
          clear hrj
          go_wp2
          go_roundg (120 - (k + 1))
          case measure => omega
          case rel => exact ⟨k + 1, l2, C2, K2, by omega, by go_num, by omega, S2.out.fr0 HFJ.out, F2.out.trans HFJ.out⟩
    · have HKN := Lib.hid (known_any wr)
      by_cases hk : k < xs.length
      · have hk1 : (k : Int) < (xs.length : Int) := by omega
        have hk2 : (120 : Int) ≤ (k : Int) := by omega
        clear hlt
        go_wp2_with (go_at_call 21; refine HKN.out.mono ?_; rintro e w8 ⟨rfl, hf8⟩)
        go_ret
        exact ⟨rfl, HFR.out.trans hf8⟩
      · have hk1 : (xs.length : Int) ≤ (k : Int) := by omega
        clear hlt
        go_wp2_with (go_at_call 21; refine HKN.out.mono ?_; rintro e w8 ⟨rfl, hf8⟩)
        go_ret
        exact ⟨rfl, HFR.out.trans hf8⟩
end Go.Proofs.Ytegogggemmcgdaa
