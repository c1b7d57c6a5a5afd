/- wire: Twice, First, Drain, List, New. -/
import Derived.Test.YtegogggemmcgdaaWireP
namespace Go.Proofs.Ytegogggemmcgdaa
open Go Go.RowKit Go.Proofs

def twiceE (l : List Msg) (i : Int) : Int := if inL i l.length then (if 64 ≤ l.length then 4 else 0) else 30
def twiceL (l : List Msg) (i : Int) : List Msg := if inL i l.length then (if 64 ≤ l.length then l else match l[i.toNat]? with | some x => l ++ [x] | none => l) else l
set_option maxRecDepth 100000 in
set_option maxHeartbeats 2000000 in
theorem twice_any (p m : Nat) (l : List Msg) (C : Cuts) (i : Int) (w : World) (h : NetAt w p m l C) :
    Calls Try.prog 46 #[.pointer (some ⟨p, 0, none⟩), .int .i64 i] w fun e w' => e = .returned (.int .i64 (twiceE l i)) ∧ NetAt w' p m (twiceL l i) C ∧ Fr (· = p) w w' := by
  have H := Lib.hid h
  clear h
  cases hi : inL i l.length with
  | false =>
    have e : twiceE l i = 30 := by simp [twiceE, hi]
    have e2 : twiceL l i = l := by simp [twiceL, hi]
    rw [e, e2]
    have HI := Lib.hid hi
    clear hi e e2
    go_enter Try.func46, Try.ntmps46
    go_wp2_with (go_at_call 57; refine (at_bad p m l C _ _ H.out HI.out).mono ?_; rintro e w1 ⟨rfl, hf1⟩)
    go_ret
    exact ⟨rfl, H.out.fr0 hf1, hf1.any _⟩
  | true =>
    have hi' := hi
    simp only [inL, Bool.and_eq_true, decide_eq_true_eq] at hi'
    obtain ⟨k, rfl⟩ := Int.eq_ofNat_of_zero_le hi'.1
    have hk : k < l.length := by omega
    have i1 : (0 : Int) ≤ (k : Int) := by omega
    have i2 : (k : Int) < (l.length : Int) := by omega
    have hx : l[k]? = some l[k] := List.getElem?_eq_getElem hk
    by_cases hn : 64 ≤ l.length
    · have e : twiceE l k = 4 := by simp [twiceE, hi, hn]
      have e2 : twiceL l k = l := by simp [twiceL, hi, hn]
      rw [e, e2]
      generalize l[k] = x at hx
      have HX := Lib.hid hx
      have HN := Lib.hid hn
      clear hi e e2 hi' hx hn
      go_enter Try.func46, Try.ntmps46
      go_wp2_with (first
        | (go_at_call 57; refine (at_ok p m l C k _ H.out hk).mono ?_; rintro e w1 ⟨rfl, hf1⟩
           have N1 := Lib.hid (H.out.fr0 hf1)
           obtain ⟨A, cp, hB, hS, hcp, hM⟩ := N1.out
           obtain ⟨b, o, rfl, hb, ⟨m0, m1, m2, m3, m4, m5, m6, m7⟩⟩ := msg_cells hS HX.out
           have h0 := hB.cell 0
           simp only [List.getElem?_cons_zero] at h0
           clear hS hM hB)
        | (go_at_call 53; refine (add_full p m l C x _ N1.out HN.out).mono ?_; rintro e w3 ⟨rfl, hf3⟩))
      go_ret
      exact ⟨rfl, N1.out.fr0 hf3, (hf1.trans hf3).any _⟩
    · have e : twiceE l k = 0 := by simp [twiceE, hi, hn]
      have e2 : twiceL l k = l ++ [l[k]] := by simp [twiceL, hi, hn, hx]
      rw [e, e2]
      generalize l[k] = x at hx
      have HX := Lib.hid hx
      have HN := Lib.hid hn
      clear hi e e2 hi' hx hn
      go_enter Try.func46, Try.ntmps46
      go_wp2_with (first
        | (go_at_call 57; refine (at_ok p m l C k _ H.out hk).mono ?_; rintro e w1 ⟨rfl, hf1⟩
           have N1 := Lib.hid (H.out.fr0 hf1)
           obtain ⟨A, cp, hB, hS, hcp, hM⟩ := N1.out
           obtain ⟨b, o, rfl, hb, ⟨m0, m1, m2, m3, m4, m5, m6, m7⟩⟩ := msg_cells hS HX.out
           have h0 := hB.cell 0
           simp only [List.getElem?_cons_zero] at h0
           clear hS hM hB)
        | (go_at_call 53; refine (add_room p m l C x _ N1.out (Nat.lt_of_not_le HN.out)).mono ?_; rintro e w3 ⟨rfl, hn3, hf3⟩))
      go_ret
      exact ⟨rfl, hn3, (hf1.any _).trans hf3⟩

/-! ### First -/
def goesAt (C : Cuts) : List Msg → Nat → Int
  | [], _ => -1
  | x :: r, k => if cutV C x then goesAt C r (k + 1) else k
def firstI (l : List Msg) (C : Cuts) : Int := goesAt C l 0
theorem first_nil (w : World) :
    Calls Try.prog 19 #[.pointer none] w fun e w' => e = .returned (.int .i64 (-1)) ∧ Fr No w w' := by
  go_enter Try.func19, Try.ntmps19
  go_wp2
  go_ret
  exact ⟨rfl, Fr.refl _ _⟩
def IdxRel (w0 : World) (l : List Msg) (C : Cuts) (i : Value) (w : World) : Prop :=
  ∃ k : Nat, k ≤ l.length ∧ i = .int .i64 k ∧ firstI l C = goesAt C (l.drop k) k ∧ Fr No w0 w
set_option maxRecDepth 100000 in
set_option maxHeartbeats 2000000 in
theorem index_any (p m : Nat) (l : List Msg) (C : Cuts) (A : Option Addr) (c : Nat) (w : World) (h : NetAt w p m l C) (hS : Sl w 28 8 A l.length (l.flatMap Msg.vals)) (hl : l.length ≤ 1000) :
    Calls Try.prog 55 #[.slice A l.length c, .func (.func 56) #[.pointer (some ⟨p, 0, none⟩)] #[]] w fun e w' => e = .returned (.int .i64 (firstI l C)) ∧ Fr No w w' := by
  have H := Lib.hid h
  have HS := Lib.hid hS
  clear h hS
  have hl' : (l.length : Int) ≤ 1000 := by omega
  go_enter Try.func55, Try.ntmps55
  go_wp2
  go_loopw [4, 5, 8] (fun _ _ i wr => IdxRel w l C i wr) (fun _ _ i _ => l.length - (intOf i).toNat)
  case atStart => exact ⟨0, Nat.zero_le _, rfl, rfl, Fr.refl _ _⟩
  case round =>
    obtain ⟨k, hk, rfl, hfi, hfr⟩ := hrel
    have HF := Lib.hid hfi
    have HR := Lib.hid hfr
    have i1 : (0 : Int) ≤ (k : Int) := by omega
    clear hfi hfr
    by_cases hlt : k < l.length
    · have i2 : (k : Int) < (l.length : Int) := by omega
      have hx : l[k]? = some l[k] := List.getElem?_eq_getElem hlt
      have hdrop : l.drop k = l[k] :: l.drop (k + 1) := List.drop_eq_getElem_cons hlt
      generalize l[k] = x at hx hdrop
      obtain ⟨b, o, rfl, hb, ⟨m0, m1, m2, m3, m4, m5, m6, m7⟩⟩ := msg_cells (HS.out.fr0 HR.out) hx
      have HX := Lib.hid hdrop
      clear hx hdrop
      cases hc : cutV C x
      · go_wp2_with (go_at_call 56; refine (open_any p m l C x _ (H.out.fr0 HR.out)).mono ?_; rintro e w2 ⟨rfl, hf2⟩)
        go_ret
        exact ⟨ret_int (by rw [HF.out, HX.out]; simp [goesAt, hc]), HR.out.trans hf2⟩
      · go_wp2_with (go_at_call 56; refine (open_any p m l C x _ (H.out.fr0 HR.out)).mono ?_; rintro e w2 ⟨rfl, hf2⟩)
        exact ⟨⟨k + 1, by omega, by go_num, by rw [HF.out, HX.out]; simp [goesAt, hc], HR.out.trans hf2⟩, by simp [intOf]; omega⟩
    · obtain rfl : k = l.length := by omega
      go_wp2
      go_ret
      exact ⟨ret_int (by rw [HF.out]; simp [goesAt]), HR.out⟩
theorem first_any (p m : Nat) (l : List Msg) (C : Cuts) (w : World) (h : NetAt w p m l C) (hl : l.length ≤ 1000) :
    Calls Try.prog 19 #[.pointer (some ⟨p, 0, none⟩)] w fun e w' => e = .returned (.int .i64 (firstI l C)) ∧ Fr No w w' := by
  obtain ⟨A, c, hB, hS, hc, hM⟩ := id h
  have h0 : w.cell? ⟨p, 0, none⟩ = some (.slice A l.length c) := hB.cell 0
  have H := Lib.hid h
  clear hB hM h
  go_enter Try.func19, Try.ntmps19
  go_wp2_with (go_at_call 55; refine (index_any p m l C A c _ H.out hS hl).mono ?_; rintro e w1 ⟨rfl, hf1⟩)
  go_ret
  exact ⟨rfl, hf1⟩

/-! ### New -/
theorem new_any (w : World) :
    Calls Try.prog 13 #[] w fun e w' => ∃ p m, e = .returned (.pointer (some ⟨p, 0, none⟩)) ∧ w.heap.size ≤ p ∧ w.heap.size ≤ m ∧ NetAt w' p m [] [] ∧ Fr No w w' := by
  have hmm := @run_makeMap Try.prog
  go_enter Try.func13, Try.ntmps13
  go_wp2
  go_ret
  refine ⟨w.heap.size + 1, w.heap.size, rfl, by omega, Nat.le_refl _, ⟨none, 0, ?_, Sl.nil _ _ _ _, Nat.le_refl _, (MapAt.new w encLink).alloc _⟩, by (repeat (first | exact Fr.refl _ _ | assumption | refine Fr.drew ?_ | refine Fr.alloc ?_ _ | refine Fr.drewL ?_))⟩
  have := Blk.new (w.alloc (.map #[] 0)) 102 [.slice none 0 0, .map (some w.heap.size)]
  simpa using this
end Go.Proofs.Ytegogggemmcgdaa
