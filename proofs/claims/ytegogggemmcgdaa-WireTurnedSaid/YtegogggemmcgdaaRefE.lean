/- ref.Net: Take. -/
import Derived.Test.YtegogggemmcgdaaRefD
namespace Go.Proofs.Ytegogggemmcgdaa
open Go Go.RowKit Go.Proofs

theorem refTake_res {tmps : Array Value} {w : World} {g : Nat} {x : Msg} {e : Int} (h : Blk w g 30 x.vals) (h4 : tmps.getD 4 undef = .pointer (some ⟨g, 0, none⟩)) (h5 : tmps.getD 5 undef = .int .i64 e) :
    (results Try.f76 tmps).run Try.prog w = .ok (msgErr x e) w := by
  obtain ⟨r0, r1, r2, r3, r4, r5, r6, r7⟩ := h.cells8
  simp only [Array.getD_eq_getD_getElem?] at h4 h5
  simp [results, Try.results76, go_sem, h4, h5, r0, r1, r2, r3, r4, r5, r6, r7]
set_option maxHeartbeats 1000000 in
theorem refTake_bad (r : Nat) (l : List Msg) (K : List (Int × Int)) (i : Int) (w : World) (h : RefAt w r l K) (hi : inL i l.length = false) :
    Calls Try.prog 76 #[.pointer (some ⟨r, 0, none⟩), .int .i64 i] w fun e w' => e = .returned (msgErr zeroMsg 30) ∧ Fr No w w' := by
  obtain ⟨A, c, A2, c2, hB, hS, hc, hS2, hc2⟩ := h
  have n0 := hB.cell 0
  have rl := hB.lt
  simp only [List.getElem?_cons_zero] at n0
  simp only [inL, Bool.and_eq_false_iff, decide_eq_false_iff_not] at hi
  clear hB hS hS2
  by_cases h0 : i < 0
  · clear hi
    go_enter Try.func76, Try.ntmps76
    go_wp2
    exact bodyPost_ret (v := msgErr zeroMsg 30) (refTake_res (x := zeroMsg) (Blk.new w 30 zeroMsg.vals) rfl rfl) rfl ⟨rfl, (Fr.refl _ _).alloc _⟩
  · have h1 : (l.length : Int) ≤ i := by omega
    clear hi
    go_enter Try.func76, Try.ntmps76
    go_wp2
    exact bodyPost_ret (v := msgErr zeroMsg 30) (refTake_res (x := zeroMsg) (Blk.new w 30 zeroMsg.vals) rfl rfl) rfl ⟨rfl, (Fr.refl _ _).alloc _⟩
set_option maxRecDepth 100000 in
set_option maxHeartbeats 2000000 in
theorem refTake_ok (r : Nat) (l : List Msg) (K : List (Int × Int)) (k : Nat) (x : Msg) (w : World) (h : RefAt w r l K) (hx : l[k]? = some x) (hl : l.length ≤ 1000) (hK : K.length ≤ 1000) (hc : refCut K x = false) :
    Calls Try.prog 76 #[.pointer (some ⟨r, 0, none⟩), .int .i64 k] w fun e w' => e = .returned (msgErr x 0) ∧ RefAt w' r (l.eraseIdx k) K ∧ Fr (· = r) w w' := by
  have hk := (List.getElem?_eq_some_iff.1 hx).1
  have i1 : (0 : Int) ≤ (k : Int) := by omega
  have i2 : (k : Int) < (l.length : Int) := by omega
  have rl := h.lt
  have H := Lib.hid h
  have HL := Lib.hid hl
  have HK := Lib.hid hK
  have N1 := Lib.hid (h.fr0 ((Fr.refl No w).alloc (Obj.cells zeroMsg.vals.toArray 30)))
  obtain ⟨A, cp, A2, c2, hB, hS, hcp, hS2, hc2⟩ := id h
  obtain ⟨b, o, rfl, hb, ⟨m0, m1, m2, m3, m4, m5, m6, m7⟩⟩ := msg_cells hS hx
  have n0 := hB.cell 0
  simp only [List.getElem?_cons_zero] at n0
  have hp1 := hB.lt
  clear hB hS hS2 h hx hl hK
  go_enter Try.func76, Try.ntmps76
  go_wp2_with (first
    | (go_at_call 83; refine (refOpen_any r l K x _ (N1.out.fr0 ((Fr.refl No _).alloc _)) HK.out).mono ?_; rintro e w2 ⟨rfl, hf2⟩
       have F2 := Lib.hid ((((Fr.refl No w).alloc (Obj.cells zeroMsg.vals.toArray 30)).alloc (Obj.cells x.vals.toArray 30)).trans hf2)
       have hL2 := (Blk.new (w.alloc (Obj.cells zeroMsg.vals.toArray 30)) 30 x.vals).fr hf2 (fun h => h)
       simp only [World.size_alloc] at hL2
       have hb2 := ((Blk.new w 30 zeroMsg.vals).alloc (Obj.cells x.vals.toArray 30)).fr hf2 (fun h => h)
       have N2 := Lib.hid (H.out.fr0 F2.out)
       clear hf2 m0 m1 m2 m3 m4 m5 m6 m7 n0)
    | (go_at_call 77; refine (refLose_ok r l K k _ N2.out hk HL.out).mono ?_; rintro e w3 ⟨rfl, hn3, hf3, hL⟩
       have hL3 := hL2.fr hf3 (fun e => by omega)
       have hb3 := hb2.fr hf3 (fun e => by omega)
       obtain ⟨r0, r1, r2, r3, r4, r5, r6, r7⟩ := hb3.cells8
       have hfz := hb3.frozens
       obtain ⟨q0, q1, q2, q3, q4, q5, q6, q7⟩ := hL3.cells8
       have N3 := Lib.hid hn3
       have hlt2 := hb2.lt
       clear hL2 hb2 hn3))
  refine bodyPost_ret (v := msgErr x 0) (refTake_res (x := x) (hb3.set8 x) rfl rfl) rfl ⟨rfl, ?_, ((F2.out.any (· = r)).trans hf3).set8 (.inr (Nat.le_refl _)) x⟩
  obtain ⟨A3, c3, A4, c4, hB3, hS3, hc3, hS4, hc4⟩ := N3.out
  have hFz : Fr (fun j => j = w.heap.size) w3 (set8 w3 w.heap.size x) := (Fr.refl (fun j => j = w.heap.size) w3).set8 (.inl rfl) x
  refine ⟨A3, c3, A4, c4, hB3.fr hFz (fun e => by omega), hS3.frA hFz (fun a ha e => ?_), hc3, hS4.fr hFz (fun b cur fr hbb e => ?_), hc4⟩
  · have h1 := hL A3 _ c3 (hB3.cell 0) a ha
    have h2 := F2.out.size
    omega
  · subst e
    unfold Blk at hb3
    rw [hb3] at hbb
    injection hbb with hbb
    injection hbb with _ ht
    exact absurd ht (by decide)
set_option maxRecDepth 100000 in
set_option maxHeartbeats 2000000 in
theorem refTake_cut (r : Nat) (l : List Msg) (K : List (Int × Int)) (k : Nat) (x : Msg) (w : World) (h : RefAt w r l K) (hx : l[k]? = some x) (hK : K.length ≤ 1000) (hc : refCut K x = true) :
    Calls Try.prog 76 #[.pointer (some ⟨r, 0, none⟩), .int .i64 k] w fun e w' => e = .returned (msgErr zeroMsg 5) ∧ Fr No w w' := by
  have hk := (List.getElem?_eq_some_iff.1 hx).1
  have i1 : (0 : Int) ≤ (k : Int) := by omega
  have i2 : (k : Int) < (l.length : Int) := by omega
  have rl := h.lt
  have HK := Lib.hid hK
  have N1 := Lib.hid (h.fr0 ((Fr.refl No w).alloc (Obj.cells zeroMsg.vals.toArray 30)))
  obtain ⟨A, cp, A2, c2, hB, hS, hcp, hS2, hc2⟩ := id h
  obtain ⟨b, o, rfl, hb, ⟨m0, m1, m2, m3, m4, m5, m6, m7⟩⟩ := msg_cells hS hx
  have n0 := hB.cell 0
  simp only [List.getElem?_cons_zero] at n0
  have hp1 := hB.lt
  clear hB hS hS2 h hx hK
  go_enter Try.func76, Try.ntmps76
  go_wp2_with (go_at_call 83; refine (refOpen_any r l K x _ (N1.out.fr0 ((Fr.refl No _).alloc _)) HK.out).mono ?_; rintro e w2 ⟨rfl, hf2⟩
               have F2 := Lib.hid ((((Fr.refl No w).alloc (Obj.cells zeroMsg.vals.toArray 30)).alloc (Obj.cells x.vals.toArray 30)).trans hf2)
               have hb2 := ((Blk.new w 30 zeroMsg.vals).alloc (Obj.cells x.vals.toArray 30)).fr hf2 (fun h => h)
               obtain ⟨r0, r1, r2, r3, r4, r5, r6, r7⟩ := hb2.cells8
               have hfz := hb2.frozens
               clear hf2 m0 m1 m2 m3 m4 m5 m6 m7 n0)
  exact bodyPost_ret (v := msgErr zeroMsg 5) (refTake_res (x := zeroMsg) (hb2.set8 zeroMsg) rfl rfl) rfl ⟨rfl, F2.out.set8 (.inr (Nat.le_refl _)) zeroMsg⟩
def refTakeR (l : List Msg) (K : List (Int × Int)) (i : Int) : Msg × Int × List Msg :=
  if inL i l.length then
    match l[i.toNat]? with
    | some x => if refCut K x then (zeroMsg, 5, l) else (x, 0, l.eraseIdx i.toNat)
    | none => (zeroMsg, 30, l)
  else (zeroMsg, 30, l)
theorem refTake_any (r : Nat) (l : List Msg) (K : List (Int × Int)) (i : Int) (w : World) (h : RefAt w r l K) (hl : l.length ≤ 1000) (hK : K.length ≤ 1000) :
    Calls Try.prog 76 #[.pointer (some ⟨r, 0, none⟩), .int .i64 i] w fun e w' => e = .returned (msgErr (refTakeR l K i).1 (refTakeR l K i).2.1) ∧ RefAt w' r (refTakeR l K i).2.2 K ∧ Fr (· = r) w w' := by
  cases hi : inL i l.length with
  | false =>
    have e : refTakeR l K i = (zeroMsg, 30, l) := by simp [refTakeR, hi]
    rw [e]
    refine (refTake_bad r l K i w h hi).mono ?_
    rintro e w' ⟨rfl, hf⟩
    exact ⟨rfl, h.fr0 hf, hf.any _⟩
  | true =>
    simp only [inL, Bool.and_eq_true, decide_eq_true_eq] at hi
    obtain ⟨k, rfl⟩ := Int.eq_ofNat_of_zero_le hi.1
    have hk : k < l.length := by omega
    have hx : l[k]? = some l[k] := List.getElem?_eq_getElem hk
    cases hc : refCut K l[k] with
    | true =>
      have e : refTakeR l K k = (zeroMsg, 5, l) := by simp [refTakeR, inL, hk, hc]
      rw [e]
      refine (refTake_cut r l K k _ w h hx hK hc).mono ?_
      rintro e w' ⟨rfl, hf⟩
      exact ⟨rfl, h.fr0 hf, hf.any _⟩
    | false =>
      have e : refTakeR l K k = (l[k], 0, l.eraseIdx k) := by simp [refTakeR, inL, hk, hc]
      rw [e]
      exact refTake_ok r l K k _ w h hx hl hK hc
end Go.Proofs.Ytegogggemmcgdaa
