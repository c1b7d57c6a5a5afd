/- wire: the methods of Net that only look, and those that cut and join links. -/
import Derived.Test.YtegogggemmcgdaaWireN
namespace Go.Proofs.Ytegogggemmcgdaa
open Go Go.RowKit Go.Proofs

theorem ret_int {k : IntKind} {a b : Int} (h : a = b) : Ending.returned (.int k a) = .returned (.int k b) := by rw [h]

theorem len_any (p m : Nat) (l : List Msg) (C : Cuts) (w : World) (h : NetAt w p m l C) :
    Calls Try.prog 24 #[.pointer (some ⟨p, 0, none⟩)] w fun e w' => e = .returned (.int .i64 l.length) ∧ Fr No w w' := by
  obtain ⟨A, c, hB, _, _, _⟩ := h
  have h0 : w.cell? ⟨p, 0, none⟩ = some (.slice A l.length c) := hB.cell 0
  clear hB
  go_enter Try.func24, Try.ntmps24
  go_wp2
  go_ret
  exact ⟨rfl, Fr.refl _ _⟩
theorem len_nil (w : World) :
    Calls Try.prog 24 #[.pointer none] w fun e w' => e = .returned (.int .i64 0) ∧ Fr No w w' := by
  go_enter Try.func24, Try.ntmps24
  go_wp2
  go_ret
  exact ⟨rfl, Fr.refl _ _⟩

theorem at_nil (i : Int) (w : World) :
    Calls Try.prog 57 #[.pointer none, .int .i64 i] w fun e w' => e = .returned (.int .i64 2) ∧ Fr No w w' := by
  go_enter Try.func57, Try.ntmps57
  go_wp2
  go_ret
  exact ⟨rfl, Fr.refl _ _⟩
def inL (i : Int) (n : Nat) : Bool := decide (0 ≤ i) && decide (i < n)
def atE (i : Int) (n : Nat) : Int := if inL i n then 0 else 30
theorem at_any (p m : Nat) (l : List Msg) (C : Cuts) (i : Int) (w : World) (h : NetAt w p m l C) :
    Calls Try.prog 57 #[.pointer (some ⟨p, 0, none⟩), .int .i64 i] w fun e w' => e = .returned (.int .i64 (atE i l.length)) ∧ Fr No w w' := by
  obtain ⟨A, c, hB, _, _, _⟩ := h
  have h0 : w.cell? ⟨p, 0, none⟩ = some (.slice A l.length c) := hB.cell 0
  clear hB
  by_cases h1 : i < 0
  · have e : atE i l.length = 30 := by simp [atE, inL]; omega
    rw [e]; clear e
    go_enter Try.func57, Try.ntmps57
    go_wp2
    go_ret
    exact ⟨rfl, Fr.refl _ _⟩
  · by_cases h2 : i < l.length
    · have e : atE i l.length = 0 := by simp [atE, inL]; omega
      rw [e]; clear e
      go_enter Try.func57, Try.ntmps57
      go_wp2
      go_ret
      exact ⟨rfl, Fr.refl _ _⟩
    · have e : atE i l.length = 30 := by simp [atE, inL]; omega
      rw [e]; clear e
      go_enter Try.func57, Try.ntmps57
      go_wp2
      go_ret
      exact ⟨rfl, Fr.refl _ _⟩

theorem send_nil (msg : Msg) (w : World) :
    Calls Try.prog 15 #[.pointer none, msg.val] w fun e w' => e = .returned (.int .i64 2) ∧ Fr No w w' := by
  go_enter Try.func15, Try.ntmps15
  go_wp2
  go_ret
  exact ⟨rfl, (Fr.refl _ _).alloc _⟩
theorem send_wrong (p : Nat) (msg : Msg) (w : World) (hr : rightB msg = false) :
    Calls Try.prog 15 #[.pointer (some ⟨p, 0, none⟩), msg.val] w fun e w' => e = .returned (.int .i64 1) ∧ Fr No w w' := by
  go_enter Try.func15, Try.ntmps15
  go_wp2_with (go_at_call 52; refine (msgRight_any msg _).mono ?_; rintro e w1 ⟨rfl, hf1⟩)
  go_ret
  exact ⟨rfl, ((Fr.refl _ _).alloc _).trans hf1⟩
def sendE (msg : Msg) (l : List Msg) : Int := if rightB msg then (if 64 ≤ l.length then 4 else 0) else 1
def sendL (msg : Msg) (l : List Msg) : List Msg := if rightB msg then (if 64 ≤ l.length then l else l ++ [msg]) else l
theorem send_any (p m : Nat) (l : List Msg) (C : Cuts) (msg : Msg) (w : World) (h : NetAt w p m l C) :
    Calls Try.prog 15 #[.pointer (some ⟨p, 0, none⟩), msg.val] w fun e w' => e = .returned (.int .i64 (sendE msg l)) ∧ NetAt w' p m (sendL msg l) C ∧ Fr (· = p) w w' := by
  cases hr : rightB msg with
  | false =>
    have e1 : sendE msg l = 1 := by simp [sendE, hr]
    have e2 : sendL msg l = l := by simp [sendL, hr]
    rw [e1, e2]
    refine (send_wrong p msg w hr).mono ?_
    rintro e w' ⟨rfl, hf⟩
    exact ⟨rfl, h.fr0 hf, hf.any _⟩
  | true =>
    by_cases hn : 64 ≤ l.length
    · have e1 : sendE msg l = 4 := by simp [sendE, hr, hn]
      have e2 : sendL msg l = l := by simp [sendL, hr, hn]
      rw [e1, e2]
      have HN := Lib.hid hn
      have H := Lib.hid h
      clear hn h e1 e2
      go_enter Try.func15, Try.ntmps15
      go_wp2_with (first
        | (go_at_call 52; refine (msgRight_any msg _).mono ?_; rintro e w1 ⟨rfl, hf1⟩; have hc1 := hf1.cells; have hz1 : w.heap.size < w1.heap.size := by have := hf1.size; simp at this; omega)
        | (go_at_call 53; refine (add_full p m l C msg _ ((H.out.alloc _).fr0 hf1) HN.out).mono ?_; rintro e w2 ⟨rfl, hf2⟩))
      go_ret
      exact ⟨rfl, ((H.out.alloc _).fr0 hf1).fr0 hf2, ((((Fr.refl _ _).alloc _).trans hf1).trans hf2).any _⟩
    · have e1 : sendE msg l = 0 := by simp [sendE, hr, hn]
      have e2 : sendL msg l = l ++ [msg] := by simp [sendL, hr, hn]
      rw [e1, e2]
      have HN := Lib.hid hn
      have H := Lib.hid h
      clear hn h e1 e2
      go_enter Try.func15, Try.ntmps15
      go_wp2_with (first
        | (go_at_call 52; refine (msgRight_any msg _).mono ?_; rintro e w1 ⟨rfl, hf1⟩; have hc1 := hf1.cells; have hz1 : w.heap.size < w1.heap.size := by have := hf1.size; simp at this; omega)
        | (go_at_call 53; refine (add_room p m l C msg _ ((H.out.alloc _).fr0 hf1) (Nat.lt_of_not_le HN.out)).mono ?_; rintro e w2 ⟨rfl, hn2, hf2⟩))
      go_ret
      exact ⟨rfl, hn2, ((((Fr.refl _ _).alloc _).trans hf1).any _).trans hf2⟩

/-! ### links that are cut, and joined -/
def turnE (a b : Int) : Int := if linkB (min a b) (max a b) then 0 else 1
def turnC (C : Cuts) (a b : Int) (c : Bool) : Cuts := if linkB (min a b) (max a b) then mput (min a b, max a b) c C else C
theorem turn_nil (a b : Int) (c : Bool) (w : World) :
    Calls Try.prog 54 #[.pointer none, .int .i64 a, .int .i64 b, .bool c] w fun e w' => e = .returned (.int .i64 2) ∧ Fr No w w' := by
  go_enter Try.func54, Try.ntmps54
  go_wp2_with (go_at_call 91; refine (linkOf_any _ _ _).mono ?_; rintro e w1 ⟨rfl, hf1⟩)
  go_ret
  exact ⟨rfl, hf1.alloc _⟩
end Go.Proofs.Ytegogggemmcgdaa
