/- WireOrder: the walk. -/
import Derived.Test.YtegogggemmcgdaaOrderP
import Derived.Test.YtegogggemmcgdaaWireL
import Derived.Deep.DeepCutAuto
import Derived.Deep.LoopGhost
namespace Go.Proofs.Ytegogggemmcgdaa
open Go Go.RowKit Go.Proofs

def encI (l : List Int) : List Value := l.map (Value.int .i64)
def zeros64 : List Value := encI (List.replicate 64 0)
theorem make64 (w : World) : (Instr.makeSlice 26 (.int .i64 64) (.int .i64 64)).run Try.prog w = .ok (.slice (some ⟨w.heap.size, 0, none⟩) 64 64) (w.alloc (.cells zeros64.toArray 2)) := by kernel_rfl

def OSt (w0 : World) (p m q : Nat) (s : Int) (C : Cuts) (l : List Msg) (last : List Int) (w : World) : Prop :=
  NetAt w p m l C ∧ Blk w q 2 (encI last) ∧ OInv s l last ∧ Fr No w0 w
structure Fresh (w0 : World) (p m q : Nat) : Prop where
  hp : w0.heap.size ≤ p
  hm : w0.heap.size ≤ m
  hq : w0.heap.size ≤ q
  pq : q ≠ p
  mq : q ≠ m

def ORel (w0 : World) (p m q : Nat) (g : Nat) (v6 v8 : Value) (wr : World) : Prop :=
  ∃ (k : Nat) (s : Int) (C : Cuts) (l : List Msg) (last : List Int), k + g = 200 ∧ v8 = .int .i64 k ∧ v6 = .int .i64 s ∧ s ≤ k ∧ OSt w0 p m q s C l last wr
def ORel1 (w0 : World) (p m q : Nat) (k : Nat) (v6 : Value) (wr : World) : Prop :=
  ∃ (s : Int) (C : Cuts) (l : List Msg) (last : List Int), v6 = .int .i64 s ∧ s ≤ k + 1 ∧ OSt w0 p m q s C l last wr
theorem sendE_cases (x : Msg) (l : List Msg) : (sendE x l = 0 ∧ rightB x = true ∧ l.length < 64 ∧ sendL x l = l ++ [x]) ∨ (sendE x l ≠ 0 ∧ sendL x l = l) := by
  unfold sendE sendL
  cases hr : rightB x with
  | false => right; simp
  | true =>
    by_cases hn : 64 ≤ l.length
    · right; simp [hn]
    · left; simp [hn]; omega
theorem OSt.turn {w0 w2 w3 : World} {p m q : Nat} {s : Int} {C C' : Cuts} {l : List Msg} {last : List Int} (FR : Fresh w0 p m q) (h : OSt w0 p m q s C l last w2) (hn : NetAt w3 p m l C') (hf : Fr (· = m) w2 w3) : OSt w0 p m q s C' l last w3 := by
  obtain ⟨_, hb, ho, hf0⟩ := h
  exact ⟨hn, hb.fr hf FR.mq, ho, hf0.step hf (fun i hi => .inr (hi ▸ FR.hm))⟩
theorem OSt.fr0 {w0 w2 w3 : World} {p m q : Nat} {s : Int} {C : Cuts} {l : List Msg} {last : List Int} (h : OSt w0 p m q s C l last w2) (hf : Fr No w2 w3) : OSt w0 p m q s C l last w3 := by
  obtain ⟨hn, hb, ho, hf0⟩ := h
  exact ⟨hn.fr0 hf, hb.fr hf (fun h => h), ho, hf0.trans hf⟩
/-- behind a Take of the first one that may come -/
theorem OSt.take {w0 w2 w3 : World} {p m q : Nat} {s : Int} {C : Cuts} {l : List Msg} {last : List Int} {j : Nat} {x : Msg} (FR : Fresh w0 p m q) (h : OSt w0 p m q s C l last w2) (hn : NetAt w3 p m (l.eraseIdx j) C) (hf : Fr (· = p) w2 w3)
    (hx : l[j]? = some x) (hc : cutV C x = false) (hb : ∀ i y, i < j → l[i]? = some y → cutV C y = true) :
    OSt w0 p m q s C (l.eraseIdx j) (last.set (8 * x.frm + x.to_).toNat x.n) (w3.setCell ⟨q, (8 * x.frm + x.to_).toNat, none⟩ (.int .i64 x.n)) := by
  obtain ⟨_, hbk, ho, hf0⟩ := h
  have hb3 := (hbk.fr hf FR.pq).set_ (8 * x.frm + x.to_).toNat (.int .i64 x.n)
  have hf3 := hf0.step hf (fun i hi => .inr (hi ▸ FR.hp))
  refine ⟨?_, ?_, ho.take hx hc hb, hf3.setCell (.inr FR.hq) _⟩
  · exact hn.fr (S := fun i => i = q) ((Fr.refl (fun i => i = q) w3).setCell (.inl rfl) _) (fun e => FR.pq e.symm) (fun e => FR.mq e.symm) (fun b cur fr hbb e => by
      subst e
      have := hbk.fr hf FR.pq
      unfold Blk at this
      rw [this] at hbb
      injection hbb with hbb
      injection hbb with _ ht
      exact absurd ht (by decide))
  · have e : encI (last.set (8 * x.frm + x.to_).toNat x.n) = (encI last).set (8 * x.frm + x.to_).toNat (.int .i64 x.n) := by simp [encI, List.map_set]
    rw [e]
    exact hb3
def ORel2 (w0 : World) (p m q : Nat) (s : Int) (g : Nat) (v11 : Value) (wr : World) : Prop :=
  ∃ t : Nat, t + g = 2 ∧ v11 = .int .i64 t ∧ ∃ C l last, OSt w0 p m q s C l last wr

/-- behind a Send -/
theorem orel_send {w0 w2 w3 : World} {p m q k : Nat} {s : Int} {C : Cuts} {l : List Msg} {last : List Int} {x : Msg} (FR : Fresh w0 p m q) (h : OSt w0 p m q s C l last w2) (hs : s ≤ k)
    (hn : NetAt w3 p m (sendL { x with n := s + 1 } l) C) (hf : Fr (· = p) w2 w3) :
    (sendE { x with n := s + 1 } l = 0 → ORel1 w0 p m q k (.int .i64 (s + 1)) w3) ∧ (sendE { x with n := s + 1 } l ≠ 0 → ORel1 w0 p m q k (.int .i64 s) w3) := by
  obtain ⟨_, hb, ho, hf0⟩ := h
  have hb3 := hb.fr hf FR.pq
  have hf3 := hf0.step hf (fun i hi => .inr (hi ▸ FR.hp))
  rcases sendE_cases { x with n := s + 1 } l with ⟨h1, h2, h3, h4⟩ | ⟨h1, h2⟩
  · refine ⟨fun _ => ⟨s + 1, C, _, last, rfl, by omega, hn, hb3, ?_, hf3⟩, fun h => absurd h1 h⟩
    rw [h4]
    exact ho.send rfl h2 h3
  · refine ⟨fun h => absurd h h1, fun _ => ⟨s, C, _, last, rfl, by omega, hn, hb3, ?_, hf3⟩⟩
    rw [h2]
    exact ho

set_option maxRecDepth 100000 in
set_option maxHeartbeats 4000000 in
theorem wireOrder_walk (A0 A1 : Option Addr) (c0 c1 : Nat) (e0 e1 : TypeId) (xs : List Msg) (ys : List Int) (w : World) (hx : Sl w e0 8 A0 xs.length (xs.flatMap Msg.vals)) (hy : Sl w e1 1 A1 ys.length (encI ys))
    (hxm : xs.length ≤ maxLen) (hym : ys.length ≤ maxLen) (hyb : ∀ y ∈ ys, -9223372036854775808 ≤ y ∧ y ≤ 9223372036854775807) :
    Calls Try.prog 3 #[.slice A0 xs.length c0, .slice A1 ys.length c1] w fun e w' => e = .returned (.bool true) ∧ Fr No w w' := by
  have HX := Lib.hid hx
  have HY := Lib.hid hy
  have hx1 : (0 : Int) ≤ (xs.length : Int) := by omega
  have hx2 : (xs.length : Int) ≤ 9223372036854775807 := by simp only [maxLen] at hxm; omega
  have hy1 : (0 : Int) ≤ (ys.length : Int) := by omega
  have hy2 : (ys.length : Int) ≤ 9223372036854775807 := by simp only [maxLen] at hym; omega
  have HYB := Lib.hid hyb
  clear hx hy hxm hym hyb
  have hmk := make64
  go_enter Try.func3, Try.ntmps3
  go_wp2_with (go_at_call 13; refine (new_any _).mono ?_; rintro e w1 ⟨p, m, rfl, hp, hm, N1, F1⟩; have HN1 := Lib.hid N1; have HF1 := Lib.hid F1; have HP := Lib.hid hp; have HM := Lib.hid hm; clear N1 F1 hp hm)
  clear hmk
  have S0 : OSt w p m w1.heap.size 0 [] [] (List.replicate 64 0) (w1.alloc (Obj.cells zeros64.toArray 2)) := ⟨HN1.out.alloc _, Blk.new _ _ _, OInv.start, HF1.out.alloc _⟩
  have FR : Fresh w p m w1.heap.size := ⟨HP.out, HM.out, HF1.out.size, by have := HN1.out.lt; omega, by have := HN1.out.ltm; omega⟩
  have HS0 := Lib.hid S0
  have HFR := Lib.hid FR
  clear S0 FR HP HM
  obtain ⟨q, hq⟩ : ∃ q, q = w1.heap.size := ⟨_, rfl⟩
  rw [← hq] at HS0 HFR ⊢
  go_loopg [6, 8] 200 (fun g v6 v8 wr => ORel w p m q g v6 v8 wr)
  case atStart => exact ⟨0, 0, [], [], _, rfl, rfl, rfl, by omega, HS0.out⟩
  case round =>
    clear HS0 HN1 HF1 hq
    obtain ⟨k, s, C, l, last, hg, rfl, rfl, hs, hst⟩ := hrel
    have HST := Lib.hid hst
    have hs0 : 0 ≤ s := hst.2.2.1.pos
    have hk0 : (0 : Int) ≤ (k : Int) := by omega
    clear hst
    by_cases hlt : k < xs.length ∧ k < 200
    · obtain ⟨hlt1, hlt2⟩ := hlt
      have hk1 : (k : Int) < (xs.length : Int) := by omega
      have hk2 : (k : Int) < 200 := by omega
      obtain ⟨x, hxk⟩ : ∃ x, xs[k]? = some x := ⟨_, List.getElem?_eq_getElem hlt1⟩
      obtain ⟨b, o, hA, hb, ⟨m0, m1, m2, m3, m4, m5, m6, m7⟩⟩ := msg_cells (HX.out.fr0 HST.out.2.2.2) hxk
      subst hA
      clear hxk
      go_upto_if 39 with (first
        | (go_at_call 14; refine (given_any x _).mono ?_; rintro e w2 ⟨rfl, hf2⟩; have HF2 := Lib.hid hf2; clear hf2 m0 m1 m2 m3 m4 m5 m6 m7)
        | (go_at_call 15; refine (send_any p m l C { x with n := s + 1 } _ ((HST.out.1.fr0 HF2.out).alloc _)).mono ?_; rintro e w3 ⟨rfl, hn3, hf3⟩; have HN3 := Lib.hid hn3; have HF3 := Lib.hid hf3; clear hn3 hf3))
      go_cut [6] (fun v6 wx => ORel1 w p m q k v6 wx)
      case first =>
        have HC := orel_send (x := x) HFR.out (w2 := w2.alloc (Obj.cells #[.int .i64 x.frm, .int .i64 x.to_, .int .i64 x.kind, .int .i64 (s + 1), .int .i64 x.low, .int .i64 x.mins, .int .i64 x.code, .string x.text] 28))
          (k := k) ⟨(HST.out.1.fr0 HF2.out).alloc _, (HST.out.2.1.fr HF2.out (fun h => h)).alloc _, HST.out.2.2.1, (HST.out.2.2.2.trans HF2.out).alloc _⟩ hs HN3.out HF3.out
        have HCC := Lib.hid HC
        clear HC
        cases hE : (sendE { x with n := s + 1 } l == 0)
        · go_wp2
          go_meet
          exact HCC.out.2 (by simpa using hE)
        · go_wp2
          go_meet
          exact HCC.out.1 (by simpa using hE)
      case rest =>
        clear HST HF2 HN3 HF3 hs hs0 C l last
        obtain ⟨s, C, l, last, rfl, hs, hst⟩ := hcut
        have HST := Lib.hid hst
        have hs0 : 0 ≤ s := hst.2.2.1.pos
        clear hst
        go_upto_if 45 with (fail)
        go_cut [10] (fun _ wx => ∃ C l last, OSt w p m q s C l last wx)
        case first =>
          by_cases hky : k < ys.length
          · obtain ⟨y, hyk⟩ : ∃ y, ys[k]? = some y := ⟨_, List.getElem?_eq_getElem hky⟩
            obtain ⟨hyl, hyh⟩ := HYB.out y (List.mem_of_getElem? hyk)
            obtain ⟨b1, o1, hA1, hb1, hc1, _⟩ := (HY.out.fr0 HST.out.2.2.2).cells (by omega)
            subst hA1
            have n0 := hc1 k (.int .i64 y) (by rw [encI, List.getElem?_map, hyk]; rfl)
            have hky1 : (k : Int) < (ys.length : Int) := by omega
            clear hc1 hyk
            have hz1 := Int.emod_nonneg y (show (128 : Int) ≠ 0 by omega)
            have hz2 := Int.emod_lt_of_pos y (show (0 : Int) < 128 by omega)
            obtain ⟨z, hz⟩ : ∃ z, z = y % 128 := ⟨_, rfl⟩
            have hc := count_any y 128 
            have hcz : countI y 128 = z := by rw [hz]; rfl
            rw [hcz] at hc
            rw [← hz] at hz1 hz2
            have HCT := Lib.hid hc
            clear hc hcz hz
            by_cases hz3 : z < 64
            · go_wp2_with (first
                | (go_at_call 16; refine (HCT.out _ hyl hyh (by omega) (by omega)).mono ?_; rintro e w4 ⟨rfl, hf4⟩; have HF4 := Lib.hid hf4; clear hf4)
                | (go_at_call 17; refine (cut_any p m l C (z / 8) (z % 8) _ (HST.out.1.fr0 HF4.out)).mono ?_; rintro e w5 ⟨rfl, hn5, hf5⟩))
              go_meet
              exact ⟨_, _, _, (HST.out.fr0 HF4.out).turn HFR.out hn5 hf5⟩
            · have hz4 : 64 ≤ z := by omega
              go_wp2_with (first
                | (go_at_call 16; refine (HCT.out _ hyl hyh (by omega) (by omega)).mono ?_; rintro e w4 ⟨rfl, hf4⟩; have HF4 := Lib.hid hf4; clear hf4)
                | (go_at_call 18; refine (join_any p m l C ((z - 64) / 8) (z % 8) _ (HST.out.1.fr0 HF4.out)).mono ?_; rintro e w5 ⟨rfl, hn5, hf5⟩))
              go_meet
              exact ⟨_, _, _, (HST.out.fr0 HF4.out).turn HFR.out hn5 hf5⟩
          · have hky1 : (ys.length : Int) ≤ (k : Int) := by omega
            go_wp2
            go_meet
            exact ⟨_, _, _, HST.out⟩
        case rest =>
          clear HST C l last
          obtain ⟨C, l, last, hst⟩ := hcut
          have HST := Lib.hid hst
          clear hst
          go_wp2
          obtain ⟨wo, hwo⟩ : ∃ wo, wo = wc := ⟨_, rfl⟩
          go_loopg [11] 2 (fun g v11 wr => ORel2 w p m q s g v11 wr)
          case atStart => exact ⟨0, rfl, rfl, C, l, last, HST.out⟩
          case round =>
            clear HST C l last
            obtain ⟨t, ht, rfl, C, l, last, hst⟩ := hrel
            have HST := Lib.hid hst
            clear hst
            have ht0 : (0 : Int) ≤ (t : Int) := by omega
            by_cases hgo : t < 2 ∧ k % 2 = 1 ∧ 0 ≤ firstI l C
            · obtain ⟨g1, g2, g3⟩ := hgo
              have g1' : (t : Int) < 2 := by omega
              have g2' : ((k : Int) % 2 == 1) = true := beq_iff_eq.2 (by omega)
              obtain ⟨j, x, hj, hx, hc, hb⟩ := firstI_spec g3
              have few := HST.out.2.2.1.few
              have hj0 : (0 : Int) ≤ (j : Int) := by omega
              have HFI : ∀ W, Fr No wr W → Calls Try.prog 19 #[.pointer (some ⟨p, 0, none⟩)] W fun e w' => e = .returned (.int .i64 j) ∧ Fr No W w' := fun W hW => by
                have := first_any p m l C W (HST.out.1.fr0 hW) (by omega)
                rwa [hj] at this
              have HFI' := Lib.hid HFI
              have HT : ∀ W, Fr No wr W → Calls Try.prog 20 #[.pointer (some ⟨p, 0, none⟩), .int .i64 j] W fun e w' => e = .returned (msgErr x 0) ∧ NetAt w' p m (l.eraseIdx j) C ∧ Fr (· = p) W w' := fun W hW =>
                take_ok p m l C j x W (HST.out.1.fr0 hW) hx (by omega) hc
              have HT' := Lib.hid HT
              have HB := Lib.hid hb
              have HX := Lib.hid hx
              have HCC := Lib.hid hc
              obtain ⟨rx, nx, lx⟩ := HST.out.2.2.1.each x (List.mem_of_getElem? hx)
              obtain ⟨f0, f1, t0, t1⟩ := right_places rx
              have wr1 : IntKind.i64.wrap (8 * x.frm) = 8 * x.frm := IntWalk.i64_in _ (by omega)
              have wr2 : IntKind.i64.wrap (8 * x.frm + x.to_) = 8 * x.frm + x.to_ := IntWalk.i64_in _ (by omega)
              have wr3 : (0 : Int) ≤ 8 * x.frm + x.to_ := by omega
              have wr4 : 8 * x.frm + x.to_ < 64 := by omega
              clear HFI HT hb hx hc hj g2 g3 few rx
              go_wp2_with (first
                | (go_at_call 19; refine (HFI'.out _ (by first | exact HF6.out | exact Fr.refl _ _)).mono ?_; rintro e w6 ⟨rfl, hf6⟩; have HF6 := Lib.hid (Fr.trans (by first | exact HF6.out | exact Fr.refl _ _) hf6); clear hf6)
                | (go_at_call 20; refine (HT'.out _ HF6.out).mono ?_; rintro e w7 ⟨rfl, hn7, hf7⟩; have HN7 := Lib.hid hn7; have HF7 := Lib.hid hf7; clear hn7 hf7
                   have hQ := (HST.out.2.1.fr HF6.out (fun h => h)).fr HF7.out HFR.out.pq
                   have hq0 := hQ.cell (8 * x.frm + x.to_).toNat
                   have hq1 := hQ.frozen (8 * x.frm + x.to_).toNat
                   have hq2 := hQ.lt
                   have hq3 : (encI last)[(8 * x.frm + x.to_).toNat]? = some (.int .i64 (lastAt last x)) := by
                     have hl := HST.out.2.2.1.len
                     have hlt : (8 * x.frm + x.to_).toNat < last.length := by omega
                     unfold lastAt encI
                     rw [List.getElem?_map, List.getD_eq_getElem?_getD, List.getElem?_eq_getElem hlt]
                     rfl
                   rw [hq3] at hq0
                   clear hq3 hQ))
              refine wp_region_o [(0, 0), (1, 0), (2, 0), (3, 0), (5, 0), (6, 0), (9, 0), (4, 1), (7, 1), (8, 0), (10, 1), (11, 0), (12, 0), (13, 1), (14, 0), (15, 0)] (by kernel_rfl) (by kernel_rfl) ?_
              repeat (first
                | (apply wpO_pure rfl rfl; (focus (intro w'; go_simp; (try rfl); done)); try simp only [Act.put, List.setIfInBounds_toArray, List.set_cons_zero, List.set_cons_succ])
                | (apply wpO_read rfl rfl; (focus (intro w' hf' hs'; (try simp only [World.size_drew, World.cell?_drew, World.size_alloc, World.size_setCell] at hs'); go_simp; (try rfl); done)); try simp only [Act.put, List.setIfInBounds_toArray, List.set_cons_zero, List.set_cons_succ])
                | (apply wpO_skip (by decide) rfl rfl; try simp only [Act.put, List.setIfInBounds_toArray, List.set_cons_zero, List.set_cons_succ]))
              refine wpO_nil ?_
              go_wp2
              go_roundg (2 - (t + 1))
              case measure => omega
              case rel => exact ⟨t + 1, by omega, by go_num, C, _, _, ((HST.out.fr0 HF6.out).take HFR.out HN7.out HF7.out HX.out HCC.out HB.out).fr0 (by (repeat (first | exact Fr.refl _ _ | assumption | refine Fr.drew ?_ | refine Fr.alloc ?_ _ | refine Fr.drewL ?_)))⟩
            · by_cases q1 : t < 2
              · have q1' : (t : Int) < 2 := by omega
                by_cases q2 : k % 2 = 1
                · have q2' : ((k : Int) % 2 == 1) = true := beq_iff_eq.2 (by omega)
                  have q3 : firstI l C < 0 := by
                    rcases Int.lt_or_le (firstI l C) 0 with h | h
                    · exact h
                    · exact absurd ⟨q1, q2, h⟩ hgo
                  have few := HST.out.2.2.1.few
                  have HFI := first_any p m l C wr HST.out.1 (by omega)
                  generalize firstI l C = f at q3 HFI
                  have HFI' := Lib.hid HFI
                  clear HFI hgo q2 few
                  go_wp2_with (go_at_call 19; refine HFI'.out.mono ?_; rintro e w6 ⟨rfl, hf6⟩; have HF6 := Lib.hid hf6; clear hf6)
                  go_roundg (200 - (k + 1))
                  case measure => omega
                  case rel => exact ⟨k + 1, s, C, l, last, by omega, by go_num, rfl, by omega, HST.out.fr0 HF6.out⟩
                · have q2' : ((k : Int) % 2 == 1) = false := beq_eq_false_iff_ne.2 (by omega)
                  clear hgo q2
                  go_wp2
                  go_roundg (200 - (k + 1))
                  case measure => omega
                  case rel => exact ⟨k + 1, s, C, l, last, by omega, by go_num, rfl, by omega, HST.out⟩
              · have q1' : (2 : Int) ≤ (t : Int) := by omega
                clear hgo
                go_wp2
                go_roundg (200 - (k + 1))
                case measure => omega
                case rel => exact ⟨k + 1, s, C, l, last, by omega, by go_num, rfl, by omega, HST.out⟩
    · by_cases hk : k < xs.length
      · have hk1 : (k : Int) < (xs.length : Int) := by omega
        have hk2 : (200 : Int) ≤ (k : Int) := by omega
        clear hlt
        go_wp2_with (go_at_call 21; refine (known_any _).mono ?_; rintro e w8 ⟨rfl, hf8⟩)
        go_ret
        exact ⟨rfl, HST.out.2.2.2.trans hf8⟩
      · have hk1 : (xs.length : Int) ≤ (k : Int) := by omega
        clear hlt
        go_wp2_with (go_at_call 21; refine (known_any _).mono ?_; rintro e w8 ⟨rfl, hf8⟩)
        go_ret
        exact ⟨rfl, HST.out.2.2.2.trans hf8⟩
end Go.Proofs.Ytegogggemmcgdaa
