/- WireOrder: the plain law. -/
import Derived.Test.YtegogggemmcgdaaWireF
namespace Go.Proofs.Ytegogggemmcgdaa
open Go Go.RowKit

def lastAt (last : List Int) (x : Msg) : Int := last.getD (8 * x.frm + x.to_).toNat 0
structure OInv (s : Int) (l : List Msg) (last : List Int) : Prop where
  len : last.length = 64
  few : l.length ≤ 64
  pos : 0 ≤ s
  top : ∀ v ∈ last, v ≤ s
  each : ∀ y ∈ l, rightB y = true ∧ y.n ≤ s ∧ lastAt last y < y.n
  order : l.Pairwise fun a b => a.n < b.n

theorem right_places {x : Msg} (h : rightB x = true) : 0 ≤ x.frm ∧ x.frm < 8 ∧ 0 ≤ x.to_ ∧ x.to_ < 8 := by
  simp only [rightB, linkB, Bool.and_eq_true, decide_eq_true_eq] at h
  omega
theorem OInv.start : OInv 0 [] (List.replicate 64 0) :=
  ⟨by simp, by simp, by omega, by simp, by simp, by simp⟩
theorem lastAt_le {s : Int} {l : List Msg} {last : List Int} (h : OInv s l last) (x : Msg) : lastAt last x ≤ s := by
  unfold lastAt
  rw [List.getD_eq_getElem?_getD]
  cases hi : last[(8 * x.frm + x.to_).toNat]? with
  | none => exact h.pos
  | some v => exact h.top v (List.mem_of_getElem? hi)
theorem OInv.send {s : Int} {l : List Msg} {last : List Int} (h : OInv s l last) {x : Msg} (hx : x.n = s + 1) (hr : rightB x = true) (hn : l.length < 64) : OInv (s + 1) (l ++ [x]) last := by
  refine ⟨h.len, by simp; omega, by have := h.pos; omega, fun v hv => by have := h.top v hv; omega, ?_, ?_⟩
  · intro y hy
    rcases List.mem_append.1 hy with hy | hy
    · obtain ⟨h1, h2, h3⟩ := h.each y hy
      exact ⟨h1, by omega, h3⟩
    · rw [List.mem_singleton] at hy
      subst hy
      exact ⟨hr, by omega, by have := lastAt_le h y; omega⟩
  · rw [List.pairwise_append]
    refine ⟨h.order, by simp, fun a ha b hb => ?_⟩
    rw [List.mem_singleton] at hb
    subst hb
    have := (h.each a ha).2.1
    omega

theorem goesAt_spec (C : Cuts) : ∀ (l : List Msg) (k : Nat), 0 ≤ goesAt C l k → ∃ j x, goesAt C l k = (k + j : Nat) ∧ l[j]? = some x ∧ cutV C x = false ∧ ∀ i y, i < j → l[i]? = some y → cutV C y = true
  | [], k, h => by simp [goesAt] at h
  | x :: r, k, h => by
    cases hc : cutV C x with
    | false => exact ⟨0, x, by simp [goesAt, hc], rfl, hc, fun i y hi => by omega⟩
    | true =>
      simp only [goesAt, hc, if_true] at h ⊢
      obtain ⟨j, y, h1, h2, h3, h4⟩ := goesAt_spec C r (k + 1) h
      refine ⟨j + 1, y, by rw [h1]; omega, h2, h3, fun i z hi hz => ?_⟩
      cases i with
      | zero => simp only [List.getElem?_cons_zero, Option.some.injEq] at hz; subst hz; exact hc
      | succ i => exact h4 i z (by omega) hz
theorem firstI_spec {l : List Msg} {C : Cuts} (h : 0 ≤ firstI l C) : ∃ (j : Nat) (x : Msg), firstI l C = j ∧ l[j]? = some x ∧ cutV C x = false ∧ ∀ i y, i < j → l[i]? = some y → cutV C y = true := by
  obtain ⟨j, x, h1, h2, h3, h4⟩ := goesAt_spec C l 0 h
  exact ⟨j, x, by unfold firstI; rw [h1]; simp, h2, h3, h4⟩

theorem OInv.take {s : Int} {l : List Msg} {last : List Int} (h : OInv s l last) {C : Cuts} {j : Nat} {x : Msg} (hx : l[j]? = some x) (hc : cutV C x = false) (hb : ∀ i y, i < j → l[i]? = some y → cutV C y = true) :
    OInv s (l.eraseIdx j) (last.set (8 * x.frm + x.to_).toNat x.n) := by
  have hj := (List.getElem?_eq_some_iff.1 hx).1
  have hxm := List.mem_of_getElem? hx
  obtain ⟨rx, nx, _⟩ := h.each x hxm
  have px := right_places rx
  refine ⟨by simpa using h.len, by have := h.few; rw [List.length_eraseIdx]; split <;> omega, h.pos, ?_, ?_, ?_⟩
  · intro v hv
    rcases List.mem_or_eq_of_mem_set hv with hv | rfl
    · exact h.top v hv
    · exact nx
  · intro y hy
    obtain ⟨i, hi⟩ := List.getElem?_of_mem hy
    rw [List.getElem?_eraseIdx] at hi
    have hym : y ∈ l := (List.eraseIdx_sublist l j).subset hy
    obtain ⟨ry, ny, ly⟩ := h.each y hym
    have py := right_places ry
    refine ⟨ry, ny, ?_⟩
    unfold lastAt at ly ⊢
    rw [List.getD_eq_getElem?_getD] at ly ⊢
    rw [List.getElem?_set]
    by_cases he : (8 * x.frm + x.to_).toNat = (8 * y.frm + y.to_).toNat
    · rw [if_pos he, if_pos (by rw [h.len]; omega)]
      simp only [Option.getD_some]
      have hf : x.frm = y.frm := by omega
      have ht : x.to_ = y.to_ := by omega
      have hcy : cutV C y = false := by rw [← hc]; unfold cutV; rw [hf, ht]
      split at hi
      · rename_i hij
        have := hb i y hij hi
        rw [hcy] at this
        cases this
      · rename_i hij
        have h1 := List.pairwise_iff_getElem.1 h.order j (i + 1) hj (List.getElem?_eq_some_iff.1 hi).1 (by omega)
        rw [(List.getElem?_eq_some_iff.1 hi).2, (List.getElem?_eq_some_iff.1 hx).2] at h1
        exact h1
    · rw [if_neg he]
      exact ly
  · exact h.order.sublist (List.eraseIdx_sublist l j)
end Go.Proofs.Ytegogggemmcgdaa
