/- WireOnce: the walk of the law's function. -/
import Derived.Test.YtegogggemmcgdaaOnceW
namespace Go.Proofs.Ytegogggemmcgdaa
open Go Go.RowKit Go.Proofs

theorem sendE_two (x : Msg) (l : List Msg) : (sendE x l = 0 ∧ sendL x l = l ++ [x] ∧ l.length < 64) ∨ (sendE x l ≠ 0 ∧ sendL x l = l) := by
  unfold sendE sendL
  cases hr : rightB x with
  | false => right; simp
  | true =>
    by_cases hn : 64 ≤ l.length
    · right; simp [hn]
    · left; simp [hn]; omega
theorem int64_info : (Try.prog.info? 2).map (fun i => (i.zero, i.size, i.bytes)) = some (some (.int .i64 0), 1, 8) := by kernel_rfl
def KRel (w0 : World) (p m : Nat) (C : Cuts) (l : List Msg) (seen : List Int) (come : List Msg) (A : Option Addr) (g : Nat) (v5 v14 : Value) (wr : World) : Prop :=
  ∃ (t : Nat) (v : Value), t + g = come.length ∧ v14 = .int .i64 t ∧ v = v5 ∧ NSt' w0 p m C l (seen ++ ns (come.take t)) v wr ∧ Sl wr 28 8 A come.length (come.flatMap Msg.vals)
theorem ns_take_succ {l : List Msg} {k : Nat} {x : Msg} (hx : l[k]? = some x) : ns (l.take (k + 1)) = ns (l.take k) ++ [x.n] := by
  rw [List.take_add_one, hx, ns, List.map_append]
  rfl
theorem sl_other {w w' : World} {A : Option Addr} {n size base k : Nat} {v : Value} {zs xs : List Value} (h : Sl w 28 8 A n xs) (hr : w.ownsRow base 2 size v k zs) (hg : w.grownBy w' v.ownBlock) : Sl w' 28 8 A n xs :=
  h.fr (Fr.of_grown hg) fun b cur fr hb e => by
    obtain ⟨cur', hc⟩ := row_type hr b e.symm
    rw [hc] at hb
    injection hb with hb
    injection hb with _ ht
    exact absurd ht (by decide)
set_option maxRecDepth 100000 in
set_option maxHeartbeats 4000000 in
theorem wireOnce_walk (A0 : Option Addr) (c0 : Nat) (e0 : TypeId) (xs : List AAct) (w : World) (hx : Sl w e0 11 A0 xs.length (xs.flatMap AAct.vals)) (hxm : xs.length ≤ maxLen) :
    Calls Try.prog 4 #[.slice A0 xs.length c0] w fun e w' => e = .returned (.bool true) ∧ Fr No w w' := by
  have HX := Lib.hid hx
  have hx1 : (0 : Int) ≤ (xs.length : Int) := by omega
  have hx2 : (xs.length : Int) ≤ 9223372036854775807 := by simp only [maxLen] at hxm; omega
  clear hx hxm
  obtain ⟨j0, hj0, jz0, jz1, jz2⟩ := info_parts int64_info
  go_enter Try.func4, Try.ntmps4
  go_wp2_with (go_at_call 13; refine (new_any _).mono ?_; rintro e w1 ⟨p, m, rfl, hp, hm, N1, F1⟩; have HS0 := Lib.hid (NSt.mk (v := .slice none 0 0) (lost := 0) (s := 0) N1 ⟨rfl, .inl ⟨rfl, rfl⟩⟩ ONInv.start F1 hp hm); clear N1 F1 hp hm)
  go_loopg [4, 5, 6, 7] 120 (fun g v4 v5 v6 v7 wr => WRel w p m g v4 v5 v6 v7 wr)
  case atStart => exact ⟨0, 0, [], [], [], 0, _, rfl, rfl, rfl, rfl, rfl, by omega, HS0.out⟩
  case round =>
    clear HS0
    obtain ⟨k, s, C, l, seen, lost, v, hg, rfl, rfl, rfl, rfl, hs, hst⟩ := hrel
    have HST := Lib.hid hst
    have hcount := hst.inv.good.count
    have hfew := hst.inv.few
    have hlen : (ns l).length = l.length := List.length_map ..
    rw [List.length_append, hlen] at hcount
    have hs0 : 0 ≤ s := by omega
    have hk0 : (0 : Int) ≤ (k : Int) := by omega
    have hl0 : (0 : Int) ≤ (lost : Int) := by omega
    have hl1 : (lost : Int) ≤ s := by omega
    have hn1 : (seen.length : Int) ≤ s := by omega
    clear hst hcount hlen
    by_cases hlt : k < xs.length ∧ k < 120
    · obtain ⟨hlt1, hlt2⟩ := hlt
      have hk1 : (k : Int) < (xs.length : Int) := by omega
      have hk2 : (k : Int) < 120 := by omega
      obtain ⟨x, hxk⟩ : ∃ x, xs[k]? = some x := ⟨_, List.getElem?_eq_getElem hlt1⟩
      obtain ⟨b, o, hA, hb, ⟨m0, m1, m2, m3, m4, m5, m6, m7, m8, m9, m10⟩⟩ := act_cells (HX.out.fr0 HST.out.fr) hxk
      subst hA
      clear hxk
      obtain ⟨kd, y, ii, jj⟩ := x
      dsimp only at m0 m1 m2 m3 m4 m5 m6 m7 m8 m9 m10
      by_cases k0 : kd = 0
      · subst k0
        rcases sendE_two { y with n := s + 1 } l with ⟨h1, h2, h3⟩ | ⟨h1, h2⟩
        · have H1 := Lib.hid h1
          have H2 := Lib.hid h2
          have H3 := Lib.hid h3
          clear h1 h2 h3
          go_wp2_with (first
            | (go_at_call 14; refine (given_any y _).mono ?_; rintro e w2 ⟨rfl, hf2⟩; have N2 := Lib.hid (HST.out.fr0 ((Fr.alloc (Fr.refl No wr) _).trans hf2)); clear hf2 m0 m1 m2 m3 m4 m5 m6 m7 m8 m9 m10)
            | (go_at_call 15; go_loud (have cs := send_any p m l C { y with n := s + 1 } _ (N2.out.net.alloc (Obj.cells ({ y with n := s + 1 } : Msg).vals.toArray 28)); rw [H1.out, H2.out] at cs; refine cs.mono ?_; rintro e w3 ⟨rfl, hn3, hf3⟩; have N3 := Lib.hid ((N2.out.fr0 (Fr.alloc (Fr.refl No w2) _)).netp hf3 hn3 (HST.out.inv.send rfl H3.out)); clear hn3 hf3 cs)))
          go_roundg (120 - (k + 1))
          case measure => omega
          case rel => exact ⟨k + 1, s + 1, C, _, seen, lost, v, by omega, by go_num, rfl, rfl, by first | rfl | go_num, by omega, N3.out⟩
        · have h4 : (sendE { y with n := s + 1 } l == 0) = false := beq_eq_false_iff_ne.2 h1
          obtain ⟨e0, he0⟩ : ∃ e0, e0 = sendE { y with n := s + 1 } l := ⟨_, rfl⟩
          rw [← he0] at h4
          have H1 := Lib.hid he0
          have H2 := Lib.hid h2
          clear h1 h2 he0
          go_wp2_with (first
            | (go_at_call 14; refine (given_any y _).mono ?_; rintro e w2 ⟨rfl, hf2⟩; have N2 := Lib.hid (HST.out.fr0 ((Fr.alloc (Fr.refl No wr) _).trans hf2)); clear hf2 m0 m1 m2 m3 m4 m5 m6 m7 m8 m9 m10)
            | (go_at_call 15; go_loud (have cs := send_any p m l C { y with n := s + 1 } _ (N2.out.net.alloc (Obj.cells ({ y with n := s + 1 } : Msg).vals.toArray 28)); rw [← H1.out, H2.out] at cs; refine cs.mono ?_; rintro e w3 ⟨rfl, hn3, hf3⟩; have N3 := Lib.hid ((N2.out.fr0 (Fr.alloc (Fr.refl No w2) _)).netp hf3 hn3 HST.out.inv); clear hn3 hf3 cs)))
          go_roundg (120 - (k + 1))
          case measure => omega
          case rel => exact ⟨k + 1, s, C, _, seen, lost, v, by omega, by go_num, rfl, rfl, by first | rfl | go_num, by omega, N3.out⟩
      by_cases k1 : kd = 1
      · subst k1
        rcases sendE_two { y with n := s + 1 } l with ⟨h1, h2, h3⟩ | ⟨h1, h2⟩
        · have H1 := Lib.hid h1
          have H2 := Lib.hid h2
          have H3 := Lib.hid h3
          clear h1 h2 h3
          go_wp2_with (first
            | (go_at_call 14; refine (given_any y _).mono ?_; rintro e w2 ⟨rfl, hf2⟩; have N2 := Lib.hid (HST.out.fr0 ((Fr.alloc (Fr.refl No wr) _).trans hf2)); clear hf2 m0 m1 m2 m3 m4 m5 m6 m7 m8 m9 m10)
            | (go_at_call 15; go_loud (have cs := send_any p m l C { y with n := s + 1 } _ (N2.out.net.alloc (Obj.cells ({ y with n := s + 1 } : Msg).vals.toArray 28)); rw [H1.out, H2.out] at cs; refine cs.mono ?_; rintro e w3 ⟨rfl, hn3, hf3⟩; have N3 := Lib.hid ((N2.out.fr0 (Fr.alloc (Fr.refl No w2) _)).netp hf3 hn3 (HST.out.inv.send rfl H3.out)); clear hn3 hf3 cs)))
          go_roundg (120 - (k + 1))
          case measure => omega
          case rel => exact ⟨k + 1, s + 1, C, _, seen, lost, v, by omega, by go_num, rfl, rfl, by first | rfl | go_num, by omega, N3.out⟩
        · have h4 : (sendE { y with n := s + 1 } l == 0) = false := beq_eq_false_iff_ne.2 h1
          obtain ⟨e0, he0⟩ : ∃ e0, e0 = sendE { y with n := s + 1 } l := ⟨_, rfl⟩
          rw [← he0] at h4
          have H1 := Lib.hid he0
          have H2 := Lib.hid h2
          clear h1 h2 he0
          go_wp2_with (first
            | (go_at_call 14; refine (given_any y _).mono ?_; rintro e w2 ⟨rfl, hf2⟩; have N2 := Lib.hid (HST.out.fr0 ((Fr.alloc (Fr.refl No wr) _).trans hf2)); clear hf2 m0 m1 m2 m3 m4 m5 m6 m7 m8 m9 m10)
            | (go_at_call 15; go_loud (have cs := send_any p m l C { y with n := s + 1 } _ (N2.out.net.alloc (Obj.cells ({ y with n := s + 1 } : Msg).vals.toArray 28)); rw [← H1.out, H2.out] at cs; refine cs.mono ?_; rintro e w3 ⟨rfl, hn3, hf3⟩; have N3 := Lib.hid ((N2.out.fr0 (Fr.alloc (Fr.refl No w2) _)).netp hf3 hn3 HST.out.inv); clear hn3 hf3 cs)))
          go_roundg (120 - (k + 1))
          case measure => omega
          case rel => exact ⟨k + 1, s, C, _, seen, lost, v, by omega, by go_num, rfl, rfl, by first | rfl | go_num, by omega, N3.out⟩
      by_cases k2 : kd = 2
      · subst k2
        rcases sendE_two { y with n := s + 1 } l with ⟨h1, h2, h3⟩ | ⟨h1, h2⟩
        · have H1 := Lib.hid h1
          have H2 := Lib.hid h2
          have H3 := Lib.hid h3
          clear h1 h2 h3
          go_wp2_with (first
            | (go_at_call 14; refine (given_any y _).mono ?_; rintro e w2 ⟨rfl, hf2⟩; have N2 := Lib.hid (HST.out.fr0 ((Fr.alloc (Fr.refl No wr) _).trans hf2)); clear hf2 m0 m1 m2 m3 m4 m5 m6 m7 m8 m9 m10)
            | (go_at_call 15; go_loud (have cs := send_any p m l C { y with n := s + 1 } _ (N2.out.net.alloc (Obj.cells ({ y with n := s + 1 } : Msg).vals.toArray 28)); rw [H1.out, H2.out] at cs; refine cs.mono ?_; rintro e w3 ⟨rfl, hn3, hf3⟩; have N3 := Lib.hid ((N2.out.fr0 (Fr.alloc (Fr.refl No w2) _)).netp hf3 hn3 (HST.out.inv.send rfl H3.out)); clear hn3 hf3 cs)))
          go_roundg (120 - (k + 1))
          case measure => omega
          case rel => exact ⟨k + 1, s + 1, C, _, seen, lost, v, by omega, by go_num, rfl, rfl, by first | rfl | go_num, by omega, N3.out⟩
        · have h4 : (sendE { y with n := s + 1 } l == 0) = false := beq_eq_false_iff_ne.2 h1
          obtain ⟨e0, he0⟩ : ∃ e0, e0 = sendE { y with n := s + 1 } l := ⟨_, rfl⟩
          rw [← he0] at h4
          have H1 := Lib.hid he0
          have H2 := Lib.hid h2
          clear h1 h2 he0
          go_wp2_with (first
            | (go_at_call 14; refine (given_any y _).mono ?_; rintro e w2 ⟨rfl, hf2⟩; have N2 := Lib.hid (HST.out.fr0 ((Fr.alloc (Fr.refl No wr) _).trans hf2)); clear hf2 m0 m1 m2 m3 m4 m5 m6 m7 m8 m9 m10)
            | (go_at_call 15; go_loud (have cs := send_any p m l C { y with n := s + 1 } _ (N2.out.net.alloc (Obj.cells ({ y with n := s + 1 } : Msg).vals.toArray 28)); rw [← H1.out, H2.out] at cs; refine cs.mono ?_; rintro e w3 ⟨rfl, hn3, hf3⟩; have N3 := Lib.hid ((N2.out.fr0 (Fr.alloc (Fr.refl No w2) _)).netp hf3 hn3 HST.out.inv); clear hn3 hf3 cs)))
          go_roundg (120 - (k + 1))
          case measure => omega
          case rel => exact ⟨k + 1, s, C, _, seen, lost, v, by omega, by go_num, rfl, rfl, by first | rfl | go_num, by omega, N3.out⟩
      by_cases k3 : kd = 3
      · subst k3
        rcases sendE_two { y with n := s + 1 } l with ⟨h1, h2, h3⟩ | ⟨h1, h2⟩
        · have H1 := Lib.hid h1
          have H2 := Lib.hid h2
          have H3 := Lib.hid h3
          clear h1 h2 h3
          go_wp2_with (first
            | (go_at_call 14; refine (given_any y _).mono ?_; rintro e w2 ⟨rfl, hf2⟩; have N2 := Lib.hid (HST.out.fr0 ((Fr.alloc (Fr.refl No wr) _).trans hf2)); clear hf2 m0 m1 m2 m3 m4 m5 m6 m7 m8 m9 m10)
            | (go_at_call 15; go_loud (have cs := send_any p m l C { y with n := s + 1 } _ (N2.out.net.alloc (Obj.cells ({ y with n := s + 1 } : Msg).vals.toArray 28)); rw [H1.out, H2.out] at cs; refine cs.mono ?_; rintro e w3 ⟨rfl, hn3, hf3⟩; have N3 := Lib.hid ((N2.out.fr0 (Fr.alloc (Fr.refl No w2) _)).netp hf3 hn3 (HST.out.inv.send rfl H3.out)); clear hn3 hf3 cs)))
          go_roundg (120 - (k + 1))
          case measure => omega
          case rel => exact ⟨k + 1, s + 1, C, _, seen, lost, v, by omega, by go_num, rfl, rfl, by first | rfl | go_num, by omega, N3.out⟩
        · have h4 : (sendE { y with n := s + 1 } l == 0) = false := beq_eq_false_iff_ne.2 h1
          obtain ⟨e0, he0⟩ : ∃ e0, e0 = sendE { y with n := s + 1 } l := ⟨_, rfl⟩
          rw [← he0] at h4
          have H1 := Lib.hid he0
          have H2 := Lib.hid h2
          clear h1 h2 he0
          go_wp2_with (first
            | (go_at_call 14; refine (given_any y _).mono ?_; rintro e w2 ⟨rfl, hf2⟩; have N2 := Lib.hid (HST.out.fr0 ((Fr.alloc (Fr.refl No wr) _).trans hf2)); clear hf2 m0 m1 m2 m3 m4 m5 m6 m7 m8 m9 m10)
            | (go_at_call 15; go_loud (have cs := send_any p m l C { y with n := s + 1 } _ (N2.out.net.alloc (Obj.cells ({ y with n := s + 1 } : Msg).vals.toArray 28)); rw [← H1.out, H2.out] at cs; refine cs.mono ?_; rintro e w3 ⟨rfl, hn3, hf3⟩; have N3 := Lib.hid ((N2.out.fr0 (Fr.alloc (Fr.refl No w2) _)).netp hf3 hn3 HST.out.inv); clear hn3 hf3 cs)))
          go_roundg (120 - (k + 1))
          case measure => omega
          case rel => exact ⟨k + 1, s, C, _, seen, lost, v, by omega, by go_num, rfl, rfl, by first | rfl | go_num, by omega, N3.out⟩
      by_cases k4 : kd = 4
      · subst k4
        rcases takeR_cases l C ii with ⟨j, x, hj, hT⟩ | ⟨e1, he1, hT⟩
        · have HJ := Lib.hid hj
          have HT := Lib.hid hT
          clear hj hT
          go_wp2_with (first
            | (go_at_call 20; go_loud (have cs := take_any p m l C ii _ (HST.out.net.alloc (Obj.cells (AAct.mk 4 y ii jj).vals.toArray 42)) (by have := HST.out.inv.few; omega); rw [HT.out] at cs; refine cs.mono ?_; rintro e w3 ⟨rfl, hn3, hf3⟩; have N3 := Lib.hid ((HST.out.weak.fr0 ((Fr.refl No wr).alloc (Obj.cells (AAct.mk 4 y ii jj).vals.toArray 42))).netp hf3 hn3); have N4 := Lib.hid (N3.out.fr0 ((Fr.refl No w3).alloc (Obj.cells x.vals.toArray 28))); clear hn3 hf3 cs m0 m1 m2 m3 m4 m5 m6 m7 m8 m9 m10))
            | (at_builtin; go_loud (refine wpList_append_owned' (by rfl) (.tmp 64) (.tmp 67) 26 (by rfl) w.heap.size 2 j0 _ 1 8 Try.underlying26 hj0 jz0 jz1 jz2 rfl (by omega) v (seen).length (encN (seen)) (by rfl) (NSt'.row (NSt'.fr0 (N4.out) ((Fr.refl No (w3.alloc (Obj.cells x.vals.toArray 28))).alloc (Obj.cells #[.int .i64 (x.n)] 2)))) (some ⟨_, 0, none⟩) 1 1 2 [.int .i64 (x.n)] (by rfl) (by have hsl := Sl.of_new (w3.alloc (Obj.cells x.vals.toArray 28)) 2 1 1 #[.int .i64 (x.n)] [.int .i64 (x.n)] rfl rfl; simpa only [World.size_alloc] using hsl) (by simp [Value.oneCell']) (by simp only [maxLen]; omega) (by omega) (by have := (N4.out).fr.size; simp only [World.size_alloc] at this ⊢; omega) ?_); intro v2 w5 hown2 hg2 hat2))
          have N5 := Lib.hid (((N4.out.fr0 ((Fr.refl No (w3.alloc (Obj.cells x.vals.toArray 28))).alloc (Obj.cells #[.int .i64 x.n] 2))).grow (x := x.n) hown2 hg2).full (HST.out.inv.take HJ.out))
          go_roundg (120 - (k + 1))
          case measure => omega
          case rel => exact ⟨k + 1, s, C, _, _, lost, v2, by omega, by go_num, rfl, rfl, by first | rfl | go_num, by omega, N5.out⟩
        · have h4 : (e1 == 0) = false := beq_eq_false_iff_ne.2 he1
          have HT := Lib.hid hT
          clear he1 hT
          go_wp2_with (first
            | (go_at_call 20; go_loud (have cs := take_any p m l C ii _ (HST.out.net.alloc (Obj.cells (AAct.mk 4 y ii jj).vals.toArray 42)) (by have := HST.out.inv.few; omega); rw [HT.out] at cs; refine cs.mono ?_; rintro e w3 ⟨rfl, hn3, hf3⟩; have N3 := Lib.hid ((HST.out.fr0 ((Fr.refl No wr).alloc (Obj.cells (AAct.mk 4 y ii jj).vals.toArray 42))).netp hf3 hn3 HST.out.inv); clear hn3 hf3 cs m0 m1 m2 m3 m4 m5 m6 m7 m8 m9 m10)))
          go_roundg (120 - (k + 1))
          case measure => omega
          case rel => exact ⟨k + 1, s, C, _, _, lost, v, by omega, by go_num, rfl, rfl, by first | rfl | go_num, by omega, N3.out.fr0 ((Fr.refl No w3).alloc _)⟩
      by_cases k5 : kd = 5
      · subst k5
        rcases lose_cases l ii with ⟨j, x, hj, hT1, hT2⟩ | ⟨hT1, hT2⟩
        · have HJ := Lib.hid hj
          have HT1 := Lib.hid hT1
          have HT2 := Lib.hid hT2
          clear hj hT1 hT2
          go_wp2_with (first
            | (go_at_call 22; go_loud (have cs := lose_any p m l C ii _ (HST.out.net.alloc (Obj.cells (AAct.mk 5 y ii jj).vals.toArray 42)) (by have := HST.out.inv.few; omega); rw [HT1.out, HT2.out] at cs; refine cs.mono ?_; rintro e w3 ⟨rfl, hn3, hf3⟩; have N3 := Lib.hid ((HST.out.fr0 ((Fr.refl No wr).alloc (Obj.cells (AAct.mk 5 y ii jj).vals.toArray 42))).netp hf3 hn3 (HST.out.inv.lose HJ.out)); clear hn3 hf3 cs m0 m1 m2 m3 m4 m5 m6 m7 m8 m9 m10)))
          go_roundg (120 - (k + 1))
          case measure => omega
          case rel => exact ⟨k + 1, s, C, _, _, lost + 1, v, by omega, by go_num, rfl, rfl, by first | rfl | go_num, by omega, N3.out⟩
        · have HT1 := Lib.hid hT1
          have HT2 := Lib.hid hT2
          clear hT1 hT2
          go_wp2_with (first
            | (go_at_call 22; go_loud (have cs := lose_any p m l C ii _ (HST.out.net.alloc (Obj.cells (AAct.mk 5 y ii jj).vals.toArray 42)) (by have := HST.out.inv.few; omega); rw [HT1.out, HT2.out] at cs; refine cs.mono ?_; rintro e w3 ⟨rfl, hn3, hf3⟩; have N3 := Lib.hid ((HST.out.fr0 ((Fr.refl No wr).alloc (Obj.cells (AAct.mk 5 y ii jj).vals.toArray 42))).netp hf3 hn3 HST.out.inv); clear hn3 hf3 cs m0 m1 m2 m3 m4 m5 m6 m7 m8 m9 m10)))
          go_roundg (120 - (k + 1))
          case measure => omega
          case rel => exact ⟨k + 1, s, C, _, _, lost, v, by omega, by go_num, rfl, rfl, by first | rfl | go_num, by omega, N3.out⟩
      by_cases k7 : kd = 7
      · subst k7
        go_wp2_with (first
          | (go_at_call 17; go_loud (refine (cut_any p m l C ii jj _ (HST.out.net.alloc (Obj.cells (AAct.mk 7 y ii jj).vals.toArray 42))).mono ?_; rintro e w3 ⟨rfl, hn3, hf3⟩; have N3 := Lib.hid ((HST.out.fr0 ((Fr.refl No wr).alloc (Obj.cells (AAct.mk 7 y ii jj).vals.toArray 42))).netm hf3 hn3); clear hn3 hf3 m0 m1 m2 m3 m4 m5 m6 m7 m8 m9 m10)))
        go_roundg (120 - (k + 1))
        case measure => omega
        case rel => exact ⟨k + 1, s, _, _, _, lost, v, by omega, by go_num, rfl, rfl, by first | rfl | go_num, by omega, N3.out⟩
      by_cases k8 : kd = 8
      · subst k8
        go_wp2_with (first
          | (go_at_call 18; go_loud (refine (join_any p m l C ii jj _ (HST.out.net.alloc (Obj.cells (AAct.mk 8 y ii jj).vals.toArray 42))).mono ?_; rintro e w3 ⟨rfl, hn3, hf3⟩; have N3 := Lib.hid ((HST.out.fr0 ((Fr.refl No wr).alloc (Obj.cells (AAct.mk 8 y ii jj).vals.toArray 42))).netm hf3 hn3); clear hn3 hf3 m0 m1 m2 m3 m4 m5 m6 m7 m8 m9 m10)))
        go_roundg (120 - (k + 1))
        case measure => omega
        case rel => exact ⟨k + 1, s, _, _, _, lost, v, by omega, by go_num, rfl, rfl, by first | rfl | go_num, by omega, N3.out⟩
      by_cases k9 : kd = 9
      · subst k9
        go_wp2_with (first
          | (go_at_call 23; go_loud (refine (drain_any p m l C ii _ (HST.out.net.alloc (Obj.cells (AAct.mk 9 y ii jj).vals.toArray 42)) (by have := HST.out.inv.few; omega)).mono ?_; rintro e w3 ⟨A9, c9, rfl, hsl3, hn3, hf3⟩; have N3 := Lib.hid ((HST.out.weak.fr0 ((Fr.refl No wr).alloc (Obj.cells (AAct.mk 9 y ii jj).vals.toArray 42))).netp hf3 hn3); have S3 := Lib.hid hsl3; clear hn3 hf3 hsl3 m0 m1 m2 m3 m4 m5 m6 m7 m8 m9 m10)))
        have INV := Lib.hid (HST.out.inv.drain C ii)
        have hcl : (drainC l C ii).length ≤ 64 := by
          have h1 : (drainC l C ii).length ≤ l.length := by unfold drainC; split; exact List.length_filter_le _ _; simp
          omega
        obtain ⟨come, hcome⟩ : ∃ come, come = drainC l C ii := ⟨_, rfl⟩
        rw [← hcome] at hcl INV S3
        have HCM := Lib.hid hcome
        clear hcome
        rw [← HCM.out]
        go_loopg [5, 14] come.length (fun g v5 v14 wr => KRel w p m C (drainL l C ii) seen come A9 g v5 v14 wr)
        case atStart => exact ⟨0, v, by omega, rfl, rfl, by simpa [ns] using N3.out, S3.out⟩
        case round =>
          clear N3 S3
          obtain ⟨t, u, hgt, rfl, rfl, ht, hs9⟩ := hrel
          have HTT := Lib.hid ht
          have HS9 := Lib.hid hs9
          clear ht hs9
          have ht0 : (0 : Int) ≤ (t : Int) := by omega
          by_cases hlt9 : t < come.length
          · have ht1 : (t : Int) < (come.length : Int) := by omega
            obtain ⟨x, hx9⟩ : ∃ x, come[t]? = some x := ⟨_, List.getElem?_eq_getElem hlt9⟩
            obtain ⟨b9, o9, hA9, hb9, ⟨r0, r1, r2, r3, r4, r5, r6, r7⟩⟩ := msg_cells HS9.out hx9
            subst hA9
            have hTS := Lib.hid (ns_take_succ hx9)
            clear hx9
            have hsl : (seen ++ ns (come.take t)).length ≤ 200 := by simp [ns]; omega
            go_wp2_with (first
              | (at_builtin; go_loud (refine wpList_append_owned' (by rfl) (.tmp 109) (.tmp 115) 26 (by rfl) w.heap.size 2 j0 _ 1 8 Try.underlying26 hj0 jz0 jz1 jz2 rfl (by omega) u (seen ++ ns (come.take t)).length (encN (seen ++ ns (come.take t))) (by rfl) (NSt'.row (NSt'.fr0 (HTT.out) ((Fr.refl No (wr)).alloc (Obj.cells #[.int .i64 (x.n)] 2)))) (some ⟨_, 0, none⟩) 1 1 2 [.int .i64 (x.n)] (by rfl) (by have hsl := Sl.of_new (wr) 2 1 1 #[.int .i64 (x.n)] [.int .i64 (x.n)] rfl rfl; simpa only [World.size_alloc] using hsl) (by simp [Value.oneCell']) (by simp only [maxLen]; omega) (by omega) (by have := (HTT.out).fr.size; simp only [World.size_alloc] at this ⊢; omega) ?_); intro v2 w5 hown2 hg2 hat2))
            have N5 := (HTT.out.fr0 ((Fr.refl No wr).alloc (Obj.cells #[.int .i64 x.n] 2))).grow (x := x.n) hown2 hg2
            rw [List.append_assoc, ← hTS.out] at N5
            have S5 := sl_other (HS9.out.alloc (Obj.cells #[.int .i64 x.n] 2)) (HTT.out.fr0 ((Fr.refl No wr).alloc (Obj.cells #[.int .i64 x.n] 2))).row hg2
            go_roundg (come.length - (t + 1))
            case measure => omega
            case rel => exact ⟨t + 1, v2, by omega, by go_num, rfl, N5, S5⟩
          · obtain rfl : t = come.length := by omega
            go_wp2
            have N9 := HTT.out
            rw [List.take_length] at N9
            go_roundg (120 - (k + 1))
            case measure => omega
            case rel => exact ⟨k + 1, s, C, _, _, lost, u, by omega, by go_num, rfl, rfl, by first | rfl | go_num, by omega, N9.full INV.out⟩
      have z0 : (kd == 0) = false := beq_eq_false_iff_ne.2 k0
      have z1 : (kd == 1) = false := beq_eq_false_iff_ne.2 k1
      have z2 : (kd == 2) = false := beq_eq_false_iff_ne.2 k2
      have z3 : (kd == 3) = false := beq_eq_false_iff_ne.2 k3
      have z4 : (kd == 4) = false := beq_eq_false_iff_ne.2 k4
      have z5 : (kd == 5) = false := beq_eq_false_iff_ne.2 k5
      have z7 : (kd == 7) = false := beq_eq_false_iff_ne.2 k7
      have z8 : (kd == 8) = false := beq_eq_false_iff_ne.2 k8
      have z9 : (kd == 9) = false := beq_eq_false_iff_ne.2 k9
      clear k0 k1 k2 k3 k4 k5 k7 k8 k9
      go_wp2
      go_roundg (120 - (k + 1))
      case measure => omega
      case rel => exact ⟨k + 1, s, C, l, seen, lost, v, by omega, by go_num, rfl, rfl, by first | rfl | go_num, by omega, HST.out.fr0 ((Fr.refl No wr).alloc _)⟩
    · by_cases hk : k < xs.length
      · have hk1 : (k : Int) < (xs.length : Int) := by omega
        have hk2 : (120 : Int) ≤ (k : Int) := by omega
        clear hlt
        obtain ⟨he1, he2, he3⟩ := HST.out.inv.ends
        have HE1 := Lib.hid he1
        have HE2 := Lib.hid he2
        have HE3 := Lib.hid he3
        clear he1 he2 he3
        have nl1 : (0 : Int) ≤ (seen.length : Int) := by omega
        have nl2 : (0 : Int) ≤ (l.length : Int) := by omega
        have nl3 : (l.length : Int) ≤ 64 := by omega
        obtain ⟨W0, hW0⟩ : ∃ W0, W0 = wr := ⟨_, rfl⟩
        subst hW0
        obtain ⟨A5, c5, rfl, hc5⟩ := own_shape HST.out.row
        have HS5 := Lib.hid (Sl.of_own HST.out.row)
        go_wp2
        go_loopg [15] seen.length (fun g v15 wq => ∃ i : Nat, i + g = seen.length ∧ v15 = .int .i64 i ∧ Fr No W0 wq)
        case atStart => exact ⟨0, by omega, rfl, Fr.refl _ _⟩
        case round =>
          obtain ⟨i, hgi, rfl, hfi⟩ := hrel
          have HFI := Lib.hid hfi
          clear hfi
          have hi0 : (0 : Int) ≤ (i : Int) := by omega
          by_cases hil : i < seen.length
          · have hi1 : (i : Int) < (seen.length : Int) := by omega
            obtain ⟨xi, hxi⟩ : ∃ xi, seen[i]? = some xi := ⟨_, List.getElem?_eq_getElem hil⟩
            obtain ⟨b5, o5, hA5, hb5, hc5', _⟩ := HS5.out.cells (by omega)
            subst hA5
            have HC5 := Lib.hid hc5'
            clear hc5'
            have rxi := (HFI.out.cells b5 (o5 + i) hb5).trans (HC5.out i (.int .i64 xi) (by rw [encN, List.getElem?_map, hxi]; rfl))
            have hbi : b5 < wr.heap.size := Nat.lt_of_lt_of_le hb5 HFI.out.size
            obtain ⟨xi1, xi2⟩ := HE2.out xi (List.mem_of_getElem? hxi)
            have HXI := Lib.hid hxi
            clear hxi
            go_wp2
            go_loopg [16] i (fun g v16 wq => ∃ j : Nat, j + g = i ∧ v16 = .int .i64 j ∧ Fr No W0 wq)
            case atStart => exact ⟨0, by omega, rfl, HFI.out⟩
            case round =>
              obtain ⟨j, hgj, rfl, hfj⟩ := hrel
              have HFJ := Lib.hid hfj
              clear hfj
              have rxi := (HFJ.out.cells b5 (o5 + i) hb5).trans (HC5.out i (.int .i64 xi) (by rw [encN, List.getElem?_map, HXI.out]; rfl))
              have hbj : b5 < wr.heap.size := Nat.lt_of_lt_of_le hb5 HFJ.out.size
              have hj0 : (0 : Int) ≤ (j : Int) := by omega
              by_cases hjl : j < i
              · have hj1 : (j : Int) < (i : Int) := by omega
                have hj2 : (j : Int) < (seen.length : Int) := by omega
                obtain ⟨xj, hxj⟩ : ∃ xj, seen[j]? = some xj := ⟨_, List.getElem?_eq_getElem (by omega)⟩
                have rxj := (HFJ.out.cells b5 (o5 + j) hb5).trans (HC5.out j (.int .i64 xj) (by rw [encN, List.getElem?_map, hxj]; rfl))
                have hne : (xj == xi) = false := by
                  refine beq_eq_false_iff_ne.2 fun e => ?_
                  subst e
                  have := (List.getElem?_inj (by omega) HE3.out).1 (hxj.trans HXI.out.symm)
                  omega
                clear hxj
                go_wp2
                refine wp_region_o [(0, 0), (1, 0), (2, 0), (4, 0), (5, 0), (6, 0), (3, 1), (7, 1), (8, 0)] (by kernel_rfl) (by kernel_rfl) ?_
                repeat (first
                  | (apply wpO_pure rfl rfl; (focus (intro w'; go_simp; (try rfl); done)); try simp only [Act.put, List.setIfInBounds_toArray, List.set_cons_zero, List.set_cons_succ])
                  | (apply wpO_read rfl rfl; (focus (intro w' hf' hs'; (try simp only [World.size_drew, World.cell?_drew, World.size_alloc, World.size_setCell] at hs'); go_simp; (try rfl); done)); try simp only [Act.put, List.setIfInBounds_toArray, List.set_cons_zero, List.set_cons_succ])
                  | (apply wpO_skip (by decide) rfl rfl; try simp only [Act.put, List.setIfInBounds_toArray, List.set_cons_zero, List.set_cons_succ]))
                refine wpO_nil ?_
                go_wp2
                go_roundg (i - (j + 1))
                case measure => omega
                case rel => exact ⟨j + 1, by omega, by go_num, by have hh := HFJ.out; (repeat (first | exact Fr.refl _ _ | assumption | refine Fr.drew ?_ | refine Fr.alloc ?_ _ | refine Fr.drewL ?_))⟩
              · have hj1 : (i : Int) ≤ (j : Int) := by omega
                go_wp2
                go_roundg (seen.length - (i + 1))
                case measure => omega
                case rel => exact ⟨i + 1, by omega, by go_num, HFJ.out⟩
          · have hi1 : (seen.length : Int) ≤ (i : Int) := by omega
            have hend : (((seen.length : Int) + (lost : Int) + (l.length : Int)) == s) = true := beq_iff_eq.2 (by have := HE1.out; omega)
            go_wp2_with (first
              | (go_at_call 24; refine (len_any p m l C _ (HST.out.net.fr0 HFI.out)).mono ?_; rintro e w8 ⟨rfl, hf8⟩; have HF8 := Lib.hid hf8; clear hf8)
              | (go_at_call 21; refine (known_any _).mono ?_; rintro e w9 ⟨rfl, hf9⟩))
            go_ret
            exact ⟨rfl, ((HST.out.fr.trans HFI.out).trans HF8.out).trans hf9⟩
      · have hk1 : (xs.length : Int) ≤ (k : Int) := by omega
        clear hlt
        obtain ⟨he1, he2, he3⟩ := HST.out.inv.ends
        have HE1 := Lib.hid he1
        have HE2 := Lib.hid he2
        have HE3 := Lib.hid he3
        clear he1 he2 he3
        have nl1 : (0 : Int) ≤ (seen.length : Int) := by omega
        have nl2 : (0 : Int) ≤ (l.length : Int) := by omega
        have nl3 : (l.length : Int) ≤ 64 := by omega
        obtain ⟨W0, hW0⟩ : ∃ W0, W0 = wr := ⟨_, rfl⟩
        subst hW0
        obtain ⟨A5, c5, rfl, hc5⟩ := own_shape HST.out.row
        have HS5 := Lib.hid (Sl.of_own HST.out.row)
        go_wp2
        go_loopg [15] seen.length (fun g v15 wq => ∃ i : Nat, i + g = seen.length ∧ v15 = .int .i64 i ∧ Fr No W0 wq)
        case atStart => exact ⟨0, by omega, rfl, Fr.refl _ _⟩
        case round =>
          obtain ⟨i, hgi, rfl, hfi⟩ := hrel
          have HFI := Lib.hid hfi
          clear hfi
          have hi0 : (0 : Int) ≤ (i : Int) := by omega
          by_cases hil : i < seen.length
          · have hi1 : (i : Int) < (seen.length : Int) := by omega
            obtain ⟨xi, hxi⟩ : ∃ xi, seen[i]? = some xi := ⟨_, List.getElem?_eq_getElem hil⟩
            obtain ⟨b5, o5, hA5, hb5, hc5', _⟩ := HS5.out.cells (by omega)
            subst hA5
            have HC5 := Lib.hid hc5'
            clear hc5'
            have rxi := (HFI.out.cells b5 (o5 + i) hb5).trans (HC5.out i (.int .i64 xi) (by rw [encN, List.getElem?_map, hxi]; rfl))
            have hbi : b5 < wr.heap.size := Nat.lt_of_lt_of_le hb5 HFI.out.size
            obtain ⟨xi1, xi2⟩ := HE2.out xi (List.mem_of_getElem? hxi)
            have HXI := Lib.hid hxi
            clear hxi
            go_wp2
            go_loopg [16] i (fun g v16 wq => ∃ j : Nat, j + g = i ∧ v16 = .int .i64 j ∧ Fr No W0 wq)
            case atStart => exact ⟨0, by omega, rfl, HFI.out⟩
            case round =>
              obtain ⟨j, hgj, rfl, hfj⟩ := hrel
              have HFJ := Lib.hid hfj
              clear hfj
              have rxi := (HFJ.out.cells b5 (o5 + i) hb5).trans (HC5.out i (.int .i64 xi) (by rw [encN, List.getElem?_map, HXI.out]; rfl))
              have hbj : b5 < wr.heap.size := Nat.lt_of_lt_of_le hb5 HFJ.out.size
              have hj0 : (0 : Int) ≤ (j : Int) := by omega
              by_cases hjl : j < i
              · have hj1 : (j : Int) < (i : Int) := by omega
                have hj2 : (j : Int) < (seen.length : Int) := by omega
                obtain ⟨xj, hxj⟩ : ∃ xj, seen[j]? = some xj := ⟨_, List.getElem?_eq_getElem (by omega)⟩
                have rxj := (HFJ.out.cells b5 (o5 + j) hb5).trans (HC5.out j (.int .i64 xj) (by rw [encN, List.getElem?_map, hxj]; rfl))
                have hne : (xj == xi) = false := by
                  refine beq_eq_false_iff_ne.2 fun e => ?_
                  subst e
                  have := (List.getElem?_inj (by omega) HE3.out).1 (hxj.trans HXI.out.symm)
                  omega
                clear hxj
                go_wp2
                refine wp_region_o [(0, 0), (1, 0), (2, 0), (4, 0), (5, 0), (6, 0), (3, 1), (7, 1), (8, 0)] (by kernel_rfl) (by kernel_rfl) ?_
                repeat (first
                  | (apply wpO_pure rfl rfl; (focus (intro w'; go_simp; (try rfl); done)); try simp only [Act.put, List.setIfInBounds_toArray, List.set_cons_zero, List.set_cons_succ])
                  | (apply wpO_read rfl rfl; (focus (intro w' hf' hs'; (try simp only [World.size_drew, World.cell?_drew, World.size_alloc, World.size_setCell] at hs'); go_simp; (try rfl); done)); try simp only [Act.put, List.setIfInBounds_toArray, List.set_cons_zero, List.set_cons_succ])
                  | (apply wpO_skip (by decide) rfl rfl; try simp only [Act.put, List.setIfInBounds_toArray, List.set_cons_zero, List.set_cons_succ]))
                refine wpO_nil ?_
                go_wp2
                go_roundg (i - (j + 1))
                case measure => omega
                case rel => exact ⟨j + 1, by omega, by go_num, by have hh := HFJ.out; (repeat (first | exact Fr.refl _ _ | assumption | refine Fr.drew ?_ | refine Fr.alloc ?_ _ | refine Fr.drewL ?_))⟩
              · have hj1 : (i : Int) ≤ (j : Int) := by omega
                go_wp2
                go_roundg (seen.length - (i + 1))
                case measure => omega
                case rel => exact ⟨i + 1, by omega, by go_num, HFJ.out⟩
          · have hi1 : (seen.length : Int) ≤ (i : Int) := by omega
            have hend : (((seen.length : Int) + (lost : Int) + (l.length : Int)) == s) = true := beq_iff_eq.2 (by have := HE1.out; omega)
            go_wp2_with (first
              | (go_at_call 24; refine (len_any p m l C _ (HST.out.net.fr0 HFI.out)).mono ?_; rintro e w8 ⟨rfl, hf8⟩; have HF8 := Lib.hid hf8; clear hf8)
              | (go_at_call 21; refine (known_any _).mono ?_; rintro e w9 ⟨rfl, hf9⟩))
            go_ret
            exact ⟨rfl, ((HST.out.fr.trans HFI.out).trans HF8.out).trans hf9⟩
end Go.Proofs.Ytegogggemmcgdaa
