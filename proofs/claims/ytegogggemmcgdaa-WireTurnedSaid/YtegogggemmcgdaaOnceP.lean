/- WireOnce: the plain law. -/
import Derived.Test.YtegogggemmcgdaaWireD
namespace Go.Proofs.Ytegogggemmcgdaa
open Go Go.RowKit

def ns (l : List Msg) : List Int := l.map Msg.n
structure Good (s : Int) (lost : Nat) (xs : List Int) : Prop where
  once : xs.Nodup
  each : ∀ v ∈ xs, 1 ≤ v ∧ v ≤ s
  count : s = ((xs.length + lost : Nat) : Int)
theorem Good.perm {s : Int} {lost : Nat} {xs ys : List Int} (h : Good s lost xs) (hp : xs.Perm ys) : Good s lost ys :=
  ⟨hp.nodup_iff.1 h.once, fun v hv => h.each v (hp.mem_iff.2 hv), by rw [← hp.length_eq]; exact h.count⟩
structure ONInv (s : Int) (l : List Msg) (seen : List Int) (lost : Nat) : Prop where
  few : l.length ≤ 64
  good : Good s lost (ns l ++ seen)
theorem ONInv.start : ONInv 0 [] [] 0 := ⟨by simp, by simp [ns], by simp [ns], by simp [ns]⟩
theorem ONInv.send {s : Int} {l : List Msg} {seen : List Int} {lost : Nat} (h : ONInv s l seen lost) {x : Msg} (hx : x.n = s + 1) (hn : l.length < 64) : ONInv (s + 1) (l ++ [x]) seen lost := by
  refine ⟨by simp; omega, ?_⟩
  have hp : ((s + 1) :: (ns l ++ seen)).Perm (ns (l ++ [x]) ++ seen) := by
    simp only [ns, List.map_append, List.map_cons, List.map_nil, hx, List.append_assoc, List.cons_append, List.nil_append]
    exact List.perm_middle.symm
  refine Good.perm ⟨?_, ?_, ?_⟩ hp
  · refine List.nodup_cons.2 ⟨fun hm => ?_, h.good.once⟩
    have := (h.good.each _ hm).2
    omega
  · intro v hv
    have hc := h.good.count
    rcases List.mem_cons.1 hv with rfl | hv
    · omega
    · have := h.good.each v hv
      omega
  · have := h.good.count
    simp only [List.length_cons]
    omega
theorem perm_erase {l : List Msg} {k : Nat} {x : Msg} (hx : l[k]? = some x) : (x :: l.eraseIdx k).Perm l := by
  induction l generalizing k with
  | nil => simp at hx
  | cons m l ih =>
    cases k with
    | zero =>
      simp only [List.getElem?_cons_zero, Option.some.injEq] at hx
      subst hx
      exact List.Perm.refl _
    | succ k =>
      simp only [List.getElem?_cons_succ] at hx
      exact (List.Perm.swap m x (l.eraseIdx k)).trans ((ih hx).cons m)
theorem ONInv.take {s : Int} {l : List Msg} {seen : List Int} {lost : Nat} (h : ONInv s l seen lost) {k : Nat} {x : Msg} (hx : l[k]? = some x) : ONInv s (l.eraseIdx k) (seen ++ [x.n]) lost := by
  refine ⟨by rw [List.length_eraseIdx]; have := h.few; split <;> omega, h.good.perm ?_⟩
  have h1 : (ns l).Perm (x.n :: ns (l.eraseIdx k)) := ((perm_erase hx).map Msg.n).symm
  refine (h1.append_right seen).trans ?_
  rw [← List.append_assoc]
  exact (List.perm_append_singleton x.n (ns (l.eraseIdx k) ++ seen)).symm
theorem ONInv.lose {s : Int} {l : List Msg} {seen : List Int} {lost : Nat} (h : ONInv s l seen lost) {k : Nat} {x : Msg} (hx : l[k]? = some x) : ONInv s (l.eraseIdx k) seen (lost + 1) := by
  refine ⟨by rw [List.length_eraseIdx]; have := h.few; split <;> omega, ?_⟩
  have h1 : (ns l).Perm (x.n :: ns (l.eraseIdx k)) := ((perm_erase hx).map Msg.n).symm
  have h2 := h.good.perm (h1.append_right seen)
  refine ⟨(List.nodup_cons.1 h2.once).2, fun v hv => h2.each v (List.mem_cons_of_mem _ hv), ?_⟩
  have := h2.count
  simp only [List.cons_append, List.length_cons] at this
  omega
theorem perm_filter (f : Msg → Bool) (l : List Msg) : (l.filter f ++ l.filter (fun x => !f x)).Perm l := by
  induction l with
  | nil => exact List.Perm.refl _
  | cons m l ih =>
    cases h : f m
    · simp only [List.filter_cons, h, Bool.false_eq_true, if_false, Bool.not_false, if_true]
      exact List.perm_middle.trans (ih.cons m)
    · simp only [List.filter_cons, h, if_true, Bool.not_true, Bool.false_eq_true, if_false, List.cons_append]
      exact ih.cons m
theorem ONInv.drain {s : Int} {l : List Msg} {seen : List Int} {lost : Nat} (h : ONInv s l seen lost) (C : Cuts) (i : Int) : ONInv s (drainL l C i) (seen ++ ns (drainC l C i)) lost := by
  unfold drainL drainC
  split
  · refine ⟨Nat.le_trans (List.length_filter_le _ _) h.few, h.good.perm ?_⟩
    have h1 : (ns l).Perm (ns (l.filter fun x => !drainT C i x) ++ ns (l.filter (drainT C i))) := by
      rw [ns, ns, ns, ← List.map_append]
      exact (((perm_filter (drainT C i) l).symm).trans List.perm_append_comm).map _
    refine (h1.append_right seen).trans ?_
    rw [List.append_assoc]
    exact List.Perm.append_left _ List.perm_append_comm
  · simpa [ns] using h
theorem ONInv.ends {s : Int} {l : List Msg} {seen : List Int} {lost : Nat} (h : ONInv s l seen lost) : ((seen.length + lost + l.length : Nat) : Int) = s ∧ (∀ v ∈ seen, 1 ≤ v ∧ v ≤ s) ∧ seen.Nodup := by
  refine ⟨?_, fun v hv => h.good.each v (List.mem_append_right _ hv), (List.nodup_append.1 h.good.once).2.1⟩
  have := h.good.count
  simp only [List.length_append, ns, List.length_map] at this
  omega
end Go.Proofs.Ytegogggemmcgdaa
