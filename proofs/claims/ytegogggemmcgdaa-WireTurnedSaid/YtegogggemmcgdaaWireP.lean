/- wire: Take, Lose, Twice. -/
import Derived.Test.YtegogggemmcgdaaWireO
namespace Go.Proofs.Ytegogggemmcgdaa
open Go Go.RowKit Go.Proofs

theorem at_ok (p m : Nat) (l : List Msg) (C : Cuts) (k : Nat) (w : World) (h : NetAt w p m l C) (hk : k < l.length) :
    Calls Try.prog 57 #[.pointer (some ⟨p, 0, none⟩), .int .i64 k] w fun e w' => e = .returned (.int .i64 0) ∧ Fr No w w' := by
  have e : atE k l.length = 0 := by simp [atE, inL, hk]
  rw [← e]
  exact at_any p m l C k w h
theorem at_bad (p m : Nat) (l : List Msg) (C : Cuts) (i : Int) (w : World) (h : NetAt w p m l C) (hi : inL i l.length = false) :
    Calls Try.prog 57 #[.pointer (some ⟨p, 0, none⟩), .int .i64 i] w fun e w' => e = .returned (.int .i64 30) ∧ Fr No w w' := by
  have e : atE i l.length = 30 := by simp [atE, hi]
  rw [← e]
  exact at_any p m l C i w h

theorem vals_at {l : List Msg} {k : Nat} {x : Msg} (hx : l[k]? = some x) (j : Nat) (hj : j < 8) : (l.flatMap Msg.vals)[k * 8 + j]? = x.vals[j]? := by
  induction l generalizing k with
  | nil => simp at hx
  | cons m l ih =>
    cases k with
    | zero =>
      simp only [List.getElem?_cons_zero, Option.some.injEq] at hx
      subst hx
      simp only [List.flatMap_cons, Nat.zero_mul, Nat.zero_add]
      rw [List.getElem?_append_left (by simpa using hj)]
    | succ k =>
      simp only [List.getElem?_cons_succ] at hx
      have e : (k + 1) * 8 + j = (k * 8 + j) + 8 := by omega
      rw [e]
      simp only [List.flatMap_cons]
      rw [List.getElem?_append_right (by simp)]
      simpa using ih hx
structure MsgCells (w : World) (b o : Nat) (x : Msg) : Prop where
  c0 : w.cell? ⟨b, o, none⟩ = some (.int .i64 x.frm)
  c1 : w.cell? ⟨b, o + 1, none⟩ = some (.int .i64 x.to_)
  c2 : w.cell? ⟨b, o + 2, none⟩ = some (.int .i64 x.kind)
  c3 : w.cell? ⟨b, o + 3, none⟩ = some (.int .i64 x.n)
  c4 : w.cell? ⟨b, o + 4, none⟩ = some (.int .i64 x.low)
  c5 : w.cell? ⟨b, o + 5, none⟩ = some (.int .i64 x.mins)
  c6 : w.cell? ⟨b, o + 6, none⟩ = some (.int .i64 x.code)
  c7 : w.cell? ⟨b, o + 7, none⟩ = some (.string x.text)
theorem msg_cells {w : World} {t : TypeId} {A : Option Addr} {n : Nat} {l : List Msg} (h : Sl w t 8 A n (l.flatMap Msg.vals)) {k : Nat} {x : Msg} (hx : l[k]? = some x) :
    ∃ b o, A = some ⟨b, o, none⟩ ∧ b < w.heap.size ∧ MsgCells w b (o + k * 8) x := by
  have hk := (List.getElem?_eq_some_iff.1 hx).1
  have hn : 0 < n := by have := h.1; rw [vals_len] at this; omega
  obtain ⟨b, o, rfl, hb, hc, _⟩ := h.cells hn
  have key : ∀ j u, j < 8 → x.vals[j]? = some u → w.cell? ⟨b, o + k * 8 + j, none⟩ = some u := fun j u hj hu => by
    rw [Nat.add_assoc]
    exact hc _ u ((vals_at hx j hj).trans hu)
  exact ⟨b, o, rfl, hb, key 0 _ (by omega) rfl, key 1 _ (by omega) rfl, key 2 _ (by omega) rfl, key 3 _ (by omega) rfl, key 4 _ (by omega) rfl, key 5 _ (by omega) rfl, key 6 _ (by omega) rfl, key 7 _ (by omega) rfl⟩

abbrev zeroMsg : Msg := ⟨0, 0, 0, 0, 0, 0, 0, ByteArray.empty⟩
abbrev msgErr (x : Msg) (e : Int) : Value := .tuple #[x.val, .int .i64 e]

theorem Blk.cells8 {w : World} {g : Nat} {t : TypeId} {a0 a1 a2 a3 a4 a5 a6 a7 : Value} (h : Blk w g t [a0, a1, a2, a3, a4, a5, a6, a7]) :
    w.cell? ⟨g, 0, none⟩ = some a0 ∧ w.cell? ⟨g, 1, none⟩ = some a1 ∧ w.cell? ⟨g, 2, none⟩ = some a2 ∧ w.cell? ⟨g, 3, none⟩ = some a3 ∧
    w.cell? ⟨g, 4, none⟩ = some a4 ∧ w.cell? ⟨g, 5, none⟩ = some a5 ∧ w.cell? ⟨g, 6, none⟩ = some a6 ∧ w.cell? ⟨g, 7, none⟩ = some a7 :=
  ⟨h.cell 0, h.cell 1, h.cell 2, h.cell 3, h.cell 4, h.cell 5, h.cell 6, h.cell 7⟩
def set8 (w : World) (g : Nat) (x : Msg) : World :=
  (((((((w.setCell ⟨g, 0, none⟩ (.int .i64 x.frm)).setCell ⟨g, 1, none⟩ (.int .i64 x.to_)).setCell ⟨g, 2, none⟩ (.int .i64 x.kind)).setCell ⟨g, 3, none⟩ (.int .i64 x.n)).setCell ⟨g, 4, none⟩ (.int .i64 x.low)).setCell ⟨g, 5, none⟩ (.int .i64 x.mins)).setCell ⟨g, 6, none⟩ (.int .i64 x.code)).setCell ⟨g, 7, none⟩ (.string x.text)
theorem Blk.set8 {w : World} {g : Nat} {t : TypeId} {a0 a1 a2 a3 a4 a5 a6 a7 : Value} (h : Blk w g t [a0, a1, a2, a3, a4, a5, a6, a7]) (x : Msg) : Blk (set8 w g x) g t x.vals :=
  (((((((h.set_ 0 _).set_ 1 _).set_ 2 _).set_ 3 _).set_ 4 _).set_ 5 _).set_ 6 _).set_ 7 _
theorem Fr.set8 {S : Nat → Prop} {a w : World} {g : Nat} (h : Fr S a w) (hg : S g ∨ a.heap.size ≤ g) (x : Msg) : Fr S a (set8 w g x) :=
  (((((((h.setCell (p := ⟨g, 0, none⟩) hg _).setCell (p := ⟨g, 1, none⟩) hg _).setCell (p := ⟨g, 2, none⟩) hg _).setCell (p := ⟨g, 3, none⟩) hg _).setCell (p := ⟨g, 4, none⟩) hg _).setCell (p := ⟨g, 5, none⟩) hg _).setCell (p := ⟨g, 6, none⟩) hg _).setCell (p := ⟨g, 7, none⟩) hg _
theorem take_res {tmps : Array Value} {w : World} {g : Nat} {x : Msg} {e : Int} (h : Blk w g 28 x.vals) (h4 : tmps.getD 4 undef = .pointer (some ⟨g, 0, none⟩)) (h5 : tmps.getD 5 undef = .int .i64 e) :
    (results Try.f20 tmps).run Try.prog w = .ok (msgErr x e) w := by
  obtain ⟨r0, r1, r2, r3, r4, r5, r6, r7⟩ := h.cells8
  simp only [Array.getD_eq_getD_getElem?] at h4 h5
  simp [results, Try.results20, go_sem, h4, h5, r0, r1, r2, r3, r4, r5, r6, r7]

set_option maxHeartbeats 1000000 in
theorem take_nil (i : Int) (w : World) :
    Calls Try.prog 20 #[.pointer none, .int .i64 i] w fun e w' => e = .returned (msgErr zeroMsg 2) ∧ Fr No w w' := by
  go_enter Try.func20, Try.ntmps20
  go_wp2_with (go_at_call 57; refine (at_nil _ _).mono ?_; rintro e w1 ⟨rfl, hf1⟩; have hblk := (Blk.new w 28 zeroMsg.vals).fr hf1 (fun h => h); obtain ⟨r0, r1, r2, r3, r4, r5, r6, r7⟩ := hblk.cells8; have hfz := hblk.frozens)
  exact bodyPost_ret (v := msgErr zeroMsg 2) (take_res (x := zeroMsg) (hblk.set8 zeroMsg) rfl rfl) rfl ⟨rfl, (((Fr.refl _ _).alloc _).trans hf1).set8 (.inr (Nat.le_refl _)) zeroMsg⟩
set_option maxHeartbeats 1000000 in
theorem take_bad (p m : Nat) (l : List Msg) (C : Cuts) (i : Int) (w : World) (h : NetAt w p m l C) (hi : inL i l.length = false) :
    Calls Try.prog 20 #[.pointer (some ⟨p, 0, none⟩), .int .i64 i] w fun e w' => e = .returned (msgErr zeroMsg 30) ∧ Fr No w w' := by
  have H := Lib.hid h
  have HI := Lib.hid hi
  clear h hi
  go_enter Try.func20, Try.ntmps20
  go_wp2_with (go_at_call 57; refine (at_bad p m l C _ _ (H.out.alloc _) HI.out).mono ?_; rintro e w1 ⟨rfl, hf1⟩; have hblk := (Blk.new w 28 zeroMsg.vals).fr hf1 (fun h => h); obtain ⟨r0, r1, r2, r3, r4, r5, r6, r7⟩ := hblk.cells8; have hfz := hblk.frozens)
  exact bodyPost_ret (v := msgErr zeroMsg 30) (take_res (x := zeroMsg) (hblk.set8 zeroMsg) rfl rfl) rfl ⟨rfl, (((Fr.refl _ _).alloc _).trans hf1).set8 (.inr (Nat.le_refl _)) zeroMsg⟩
set_option maxRecDepth 100000 in
set_option maxHeartbeats 2000000 in
theorem take_ok (p m : Nat) (l : List Msg) (C : Cuts) (k : Nat) (x : Msg) (w : World) (h : NetAt w p m l C) (hx : l[k]? = some x) (hl : l.length ≤ 1000) (hc : cutV C x = false) :
    Calls Try.prog 20 #[.pointer (some ⟨p, 0, none⟩), .int .i64 k] w fun e w' => e = .returned (msgErr x 0) ∧ NetAt w' p m (l.eraseIdx k) C ∧ Fr (· = p) w w' := by
  have hk := (List.getElem?_eq_some_iff.1 hx).1
  have i1 : (0 : Int) ≤ (k : Int) := by omega
  have i2 : (k : Int) < (l.length : Int) := by omega
  have H := Lib.hid h
  have HX := Lib.hid hx
  have HL := Lib.hid hl
  clear h hx hl
  go_enter Try.func20, Try.ntmps20
  go_wp2_with (first
    | (go_at_call 57; refine (at_ok p m l C k _ (H.out.alloc _) hk).mono ?_; rintro e w1 ⟨rfl, hf1⟩
       have hblk := (Blk.new w 28 zeroMsg.vals).fr hf1 (fun h => h)
       have N1 := Lib.hid ((H.out.alloc (Obj.cells zeroMsg.vals.toArray 28)).fr0 hf1)
       obtain ⟨A, cp, hB, hS, hcp, hM⟩ := N1.out
       obtain ⟨b, o, rfl, hb, ⟨m0, m1, m2, m3, m4, m5, m6, m7⟩⟩ := msg_cells hS HX.out
       have h0 := hB.cell 0
       simp only [List.getElem?_cons_zero] at h0
       have hp1 := hB.lt
       have hp0 := H.out.lt
       clear hS hM hB)
    | (go_at_call 56; refine (open_any p m l C x _ (N1.out.alloc _)).mono ?_; rintro e w2 ⟨rfl, hf2⟩
       have hL2 := (Blk.new w1 28 x.vals).fr hf2 (fun h => h)
       have hb2 := (hblk.alloc (Obj.cells x.vals.toArray 28)).fr hf2 (fun h => h)
       have N2 := Lib.hid ((N1.out.alloc (Obj.cells x.vals.toArray 28)).fr0 hf2)
       have F2 := Lib.hid ((((Fr.refl No w).alloc (Obj.cells zeroMsg.vals.toArray 28)).trans hf1).alloc (Obj.cells x.vals.toArray 28) |>.trans hf2)
       clear hf1 hf2 m0 m1 m2 m3 m4 m5 m6 m7 h0 hblk)
    | (go_at_call 58; refine (out_any p m l C k _ N2.out hk HL.out).mono ?_; rintro e w3 ⟨rfl, hn3, hf3, hL⟩
       have hL3 := hL2.fr hf3 (fun e => by omega)
       have hb3 := hb2.fr hf3 (fun e => by omega)
       obtain ⟨r0, r1, r2, r3, r4, r5, r6, r7⟩ := hb3.cells8
       have hfz := hb3.frozens
       obtain ⟨q0, q1, q2, q3, q4, q5, q6, q7⟩ := hL3.cells8
       have N3 := Lib.hid hn3
       have hlt2 := hb2.lt
       clear hL2 hb2 hn3))
  refine bodyPost_ret (v := msgErr x 0) (take_res (x := x) (hb3.set8 x) rfl rfl) rfl ⟨rfl, ?_, ((F2.out.any (· = p)).trans hf3).set8 (.inr (Nat.le_refl _)) x⟩
  refine N3.out.frA (S := fun j => j = w.heap.size) ((Fr.refl (fun j => j = w.heap.size) w3).set8 (.inl rfl) x) (fun e => by omega) (fun e => ?_) (fun A n c hA a ha e => ?_)
  · have := H.out.ltm
    omega
  · have h1 := hL A n c hA a ha
    have h2 := F2.out.size
    omega
set_option maxRecDepth 100000 in
set_option maxHeartbeats 2000000 in
theorem take_cut (p m : Nat) (l : List Msg) (C : Cuts) (k : Nat) (x : Msg) (w : World) (h : NetAt w p m l C) (hx : l[k]? = some x) (hc : cutV C x = true) :
    Calls Try.prog 20 #[.pointer (some ⟨p, 0, none⟩), .int .i64 k] w fun e w' => e = .returned (msgErr zeroMsg 5) ∧ Fr No w w' := by
  have hk := (List.getElem?_eq_some_iff.1 hx).1
  have i1 : (0 : Int) ≤ (k : Int) := by omega
  have i2 : (k : Int) < (l.length : Int) := by omega
  have H := Lib.hid h
  have HX := Lib.hid hx
  clear h hx
  go_enter Try.func20, Try.ntmps20
  go_wp2_with (first
    | (go_at_call 57; refine (at_ok p m l C k _ (H.out.alloc _) hk).mono ?_; rintro e w1 ⟨rfl, hf1⟩
       have hblk := (Blk.new w 28 zeroMsg.vals).fr hf1 (fun h => h)
       have N1 := Lib.hid ((H.out.alloc (Obj.cells zeroMsg.vals.toArray 28)).fr0 hf1)
       obtain ⟨A, cp, hB, hS, hcp, hM⟩ := N1.out
       obtain ⟨b, o, rfl, hb, ⟨m0, m1, m2, m3, m4, m5, m6, m7⟩⟩ := msg_cells hS HX.out
       have h0 := hB.cell 0
       simp only [List.getElem?_cons_zero] at h0
       have hp1 := hB.lt
       clear hS hM hB)
    | (go_at_call 56; refine (open_any p m l C x _ (N1.out.alloc _)).mono ?_; rintro e w2 ⟨rfl, hf2⟩
       have hb2 := (hblk.alloc (Obj.cells x.vals.toArray 28)).fr hf2 (fun h => h)
       have F2 := Lib.hid ((((Fr.refl No w).alloc (Obj.cells zeroMsg.vals.toArray 28)).trans hf1).alloc (Obj.cells x.vals.toArray 28) |>.trans hf2)
       obtain ⟨r0, r1, r2, r3, r4, r5, r6, r7⟩ := hb2.cells8
       have hfz := hb2.frozens
       clear hf1 hf2 m0 m1 m2 m3 m4 m5 m6 m7 h0 hblk))
  exact bodyPost_ret (v := msgErr zeroMsg 5) (take_res (x := zeroMsg) (hb2.set8 zeroMsg) rfl rfl) rfl ⟨rfl, F2.out.set8 (.inr (Nat.le_refl _)) zeroMsg⟩

/-! ### Take, whatever the place -/
def takeR (l : List Msg) (C : Cuts) (i : Int) : Msg × Int × List Msg :=
  if inL i l.length then
    match l[i.toNat]? with
    | some x => if cutV C x then (zeroMsg, 5, l) else (x, 0, l.eraseIdx i.toNat)
    | none => (zeroMsg, 30, l)
  else (zeroMsg, 30, l)
theorem take_any (p m : Nat) (l : List Msg) (C : Cuts) (i : Int) (w : World) (h : NetAt w p m l C) (hl : l.length ≤ 1000) :
    Calls Try.prog 20 #[.pointer (some ⟨p, 0, none⟩), .int .i64 i] w fun e w' => e = .returned (msgErr (takeR l C i).1 (takeR l C i).2.1) ∧ NetAt w' p m (takeR l C i).2.2 C ∧ Fr (· = p) w w' := by
  cases hi : inL i l.length with
  | false =>
    have e : takeR l C i = (zeroMsg, 30, l) := by simp [takeR, hi]
    rw [e]
    refine (take_bad p m l C i w h hi).mono ?_
    rintro e w' ⟨rfl, hf⟩
    exact ⟨rfl, h.fr0 hf, hf.any _⟩
  | true =>
    simp only [inL, Bool.and_eq_true, decide_eq_true_eq] at hi
    obtain ⟨k, rfl⟩ := Int.eq_ofNat_of_zero_le hi.1
    have hk : k < l.length := by omega
    have hx : l[k]? = some l[k] := List.getElem?_eq_getElem hk
    cases hc : cutV C l[k] with
    | true =>
      have e : takeR l C k = (zeroMsg, 5, l) := by simp [takeR, inL, hk, hc]
      rw [e]
      refine (take_cut p m l C k _ w h hx hc).mono ?_
      rintro e w' ⟨rfl, hf⟩
      exact ⟨rfl, h.fr0 hf, hf.any _⟩
    | false =>
      have e : takeR l C k = (l[k], 0, l.eraseIdx k) := by simp [takeR, inL, hk, hc]
      rw [e]
      exact take_ok p m l C k _ w h hx hl hc

/-! ### Lose, Twice -/
theorem lose_nil (i : Int) (w : World) :
    Calls Try.prog 22 #[.pointer none, .int .i64 i] w fun e w' => e = .returned (.int .i64 2) ∧ Fr No w w' := by
  go_enter Try.func22, Try.ntmps22
  go_wp2_with (go_at_call 57; refine (at_nil _ _).mono ?_; rintro e w1 ⟨rfl, hf1⟩)
  go_ret
  exact ⟨rfl, hf1⟩
theorem lose_any (p m : Nat) (l : List Msg) (C : Cuts) (i : Int) (w : World) (h : NetAt w p m l C) (hl : l.length ≤ 1000) :
    Calls Try.prog 22 #[.pointer (some ⟨p, 0, none⟩), .int .i64 i] w fun e w' => e = .returned (.int .i64 (atE i l.length)) ∧ NetAt w' p m (if inL i l.length then l.eraseIdx i.toNat else l) C ∧ Fr (· = p) w w' := by
  have H := Lib.hid h
  have HL := Lib.hid hl
  clear h hl
  cases hi : inL i l.length with
  | false =>
    have e : atE i l.length = 30 := by simp [atE, hi]
    rw [e]
    simp only [Bool.false_eq_true, if_false]
    have HI := Lib.hid hi
    clear hi e
    go_enter Try.func22, Try.ntmps22
    go_wp2_with (go_at_call 57; refine (at_bad p m l C _ _ H.out HI.out).mono ?_; rintro e w1 ⟨rfl, hf1⟩)
    go_ret
    exact ⟨rfl, H.out.fr0 hf1, hf1.any _⟩
  | true =>
    have e : atE i l.length = 0 := by simp [atE, hi]
    rw [e]
    simp only [if_true]
    simp only [inL, Bool.and_eq_true, decide_eq_true_eq] at hi
    obtain ⟨k, rfl⟩ := Int.eq_ofNat_of_zero_le hi.1
    have hk : k < l.length := by omega
    rw [Int.toNat_natCast]
    clear hi e
    go_enter Try.func22, Try.ntmps22
    go_wp2_with (first
      | (go_at_call 57; refine (at_ok p m l C k _ H.out hk).mono ?_; rintro e w1 ⟨rfl, hf1⟩)
      | (go_at_call 58; refine (out_any p m l C k _ (H.out.fr0 hf1) hk HL.out).mono ?_; rintro e w3 ⟨rfl, hn3, hf3, hL⟩))
    go_ret
    exact ⟨rfl, hn3, (hf1.any _).trans hf3⟩

theorem twice_nil (i : Int) (w : World) :
    Calls Try.prog 46 #[.pointer none, .int .i64 i] w fun e w' => e = .returned (.int .i64 2) ∧ Fr No w w' := by
  go_enter Try.func46, Try.ntmps46
  go_wp2_with (go_at_call 57; refine (at_nil _ _).mono ?_; rintro e w1 ⟨rfl, hf1⟩)
  go_ret
  exact ⟨rfl, hf1⟩
end Go.Proofs.Ytegogggemmcgdaa
