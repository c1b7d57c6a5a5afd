/- WirePlays: do. -/
import Derived.Test.YtegogggemmcgdaaPlayP
import Derived.Test.YtegogggemmcgdaaOnceW
namespace Go.Proofs.Ytegogggemmcgdaa
open Go Go.RowKit Go.Proofs

abbrev AAct.val (a : AAct) : Value := .agg #[.int .i64 a.kind, .int .i64 a.m.frm, .int .i64 a.m.to_, .int .i64 a.m.kind, .int .i64 a.m.n, .int .i64 a.m.low, .int .i64 a.m.mins, .int .i64 a.m.code, .string a.m.text, .int .i64 a.i, .int .i64 a.j]
structure PSt (p m r : Nat) (l : List Msg) (C : Cuts) (K : List (Int × Int)) (w : World) : Prop where
  net : NetAt w p m l C
  ref : RefAt w r l K
  sync : Sync C K
  few : l.length ≤ 64
  fewK : K.length ≤ 900
def Touch (p m r : Nat) : Nat → Prop := fun i => i = p ∨ i = m ∨ i = r
theorem RefAt.frp {w w' : World} {p m r : Nat} {l l2 : List Msg} {K : List (Int × Int)} {C : Cuts} (h : RefAt w r l K) (hn : NetAt w p m l2 C) (hf : Fr (· = p) w w') : RefAt w' r l K := by
  obtain ⟨A, c, hB, _, _, _⟩ := hn
  obtain ⟨A1, c1, A2, c2, hB2, _⟩ := id h
  refine h.fr hf (fun e => (hB2.ne_ hB (by decide)) e) (fun b cur fr hb e => ?_) (fun b cur fr hb e => ?_)
  all_goals
    subst e
    unfold Blk at hB
    rw [hB] at hb
    injection hb with hb
    injection hb with _ ht
    exact absurd ht (by decide)
theorem RefAt.frm {w w' : World} {p m r : Nat} {l l2 : List Msg} {K : List (Int × Int)} {C : Cuts} (h : RefAt w r l K) (hn : NetAt w p m l2 C) (hf : Fr (· = m) w w') : RefAt w' r l K := by
  obtain ⟨A, c, _, _, _, hM⟩ := hn
  obtain ⟨A1, c1, A2, c2, hB2, _⟩ := id h
  refine h.fr hf (fun e => hM.ne hB2 e) (fun b cur fr hb e => ?_) (fun b cur fr hb e => ?_)
  all_goals
    subst e
    exact hM.not_cells _ _ _ hb
theorem NetAt.frr {w w' : World} {p m r : Nat} {l l2 : List Msg} {K : List (Int × Int)} {C : Cuts} (hn : NetAt w p m l2 C) (h : RefAt w r l K) (hf : Fr (· = r) w w') : NetAt w' p m l2 C := by
  obtain ⟨A, c, hB, _, _, hM⟩ := id hn
  obtain ⟨A1, c1, A2, c2, hB2, _⟩ := h
  refine hn.fr hf (fun e => (hB.ne_ hB2 (by decide)) e) (fun e => hM.ne hB2 e.symm) (fun b cur fr hb e => ?_)
  subst e
  unfold Blk at hB2
  rw [hB2] at hb
  injection hb with hb
  injection hb with _ ht
  exact absurd ht (by decide)
end Go.Proofs.Ytegogggemmcgdaa
