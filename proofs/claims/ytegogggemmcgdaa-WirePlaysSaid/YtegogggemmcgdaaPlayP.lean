/- WirePlays: the plain law: what the program's links say, and what the reference's say. -/
import Derived.Test.YtegogggemmcgdaaPlayC
namespace Go.Proofs.Ytegogggemmcgdaa
open Go Go.RowKit

/-- the links of the program's map and of the reference's list tell the same -/
def Sync (C : Cuts) (K : List (Int × Int)) : Prop := ∀ a b : Int, (mget (min a b, max a b) C).getD false = K.any (hitB a b)
theorem Sync.start : Sync [] [] := fun _ _ => rfl
theorem hit_iff (a b : Int) (c : Int × Int) : hitB a b c = true ↔ (min c.1 c.2 = min a b ∧ max c.1 c.2 = max a b) := by
  simp only [hitB, Bool.or_eq_true, Bool.and_eq_true, beq_iff_eq]
  omega
theorem Sync.cutV {C : Cuts} {K : List (Int × Int)} (h : Sync C K) (x : Msg) : cutV C x = refCut K x := h x.frm x.to_
theorem keep_any {K : List (Int × Int)} {a b p q : Int} : (keepK K a b).any (hitB p q) = (if (min p q, max p q) = (min a b, max a b) then false else K.any (hitB p q)) := by
  rw [Bool.eq_iff_iff]
  unfold keepK
  simp only [List.any_eq_true, List.mem_filter, Bool.not_eq_true']
  split
  · rename_i h
    simp only [Prod.mk.injEq] at h
    constructor
    · rintro ⟨x, ⟨_, h1⟩, h2⟩
      have := (hit_iff p q x).1 h2
      have h3 := (hit_iff a b x).2 ⟨this.1.trans h.1, this.2.trans h.2⟩
      rw [h1] at h3
      cases h3
    · intro h; cases h
  · rename_i h
    simp only [Prod.mk.injEq] at h
    rw [List.any_eq_true]
    constructor
    · rintro ⟨x, ⟨h0, _⟩, h2⟩
      exact ⟨x, h0, h2⟩
    · rintro ⟨x, h0, h2⟩
      refine ⟨x, ⟨h0, ?_⟩, h2⟩
      cases h1 : hitB a b x with
      | false => rfl
      | true =>
        have i1 := (hit_iff p q x).1 h2
        have i2 := (hit_iff a b x).1 h1
        exact absurd ⟨i1.1.symm.trans i2.1, i1.2.symm.trans i2.2⟩ h
theorem Sync.join {C : Cuts} {K : List (Int × Int)} (h : Sync C K) (a b : Int) : Sync (turnC C a b false) (joinK K a b) := by
  intro p q
  unfold turnC joinK
  split
  · rw [mget_mput, keep_any]
    split
    · rfl
    · exact h p q
  · exact h p q
theorem Sync.cut {C : Cuts} {K : List (Int × Int)} (h : Sync C K) (a b : Int) : Sync (turnC C a b true) (cutK K a b) := by
  intro p q
  unfold turnC cutK
  split
  · rw [mget_mput, List.any_append, keep_any]
    split
    · rename_i hk
      simp only [Prod.mk.injEq] at hk
      have : hitB p q (a, b) = true := (hit_iff p q (a, b)).2 ⟨hk.1.symm, hk.2.symm⟩
      simp [this]
    · rename_i hk
      have : hitB p q (a, b) = false := by
        cases h1 : hitB p q (a, b) with
        | false => rfl
        | true =>
          have := (hit_iff p q (a, b)).1 h1
          exact absurd (by rw [this.1, this.2]) hk
      simp only [List.any_cons, this, List.any_nil, Bool.or_false]
      exact h p q
  · exact h p q
theorem Sync.takeR {C : Cuts} {K : List (Int × Int)} (h : Sync C K) (l : List Msg) (i : Int) : takeR l C i = refTakeR l K i := by
  unfold Go.Proofs.Ytegogggemmcgdaa.takeR refTakeR
  simp only [h.cutV]
  split
  · cases l[i.toNat]? <;> rfl
  · rfl
theorem Sync.goes {C : Cuts} {K : List (Int × Int)} (h : Sync C K) : ∀ (l : List Msg) (k : Nat), goesAt C l k = refGoes K l k
  | [], _ => rfl
  | x :: r, k => by simp only [goesAt, refGoes, h.cutV, h.goes r (k + 1)]
theorem Sync.drainC {C : Cuts} {K : List (Int × Int)} (h : Sync C K) (l : List Msg) (i : Int) : drainC l C i = refDrainC l K i := by
  unfold Go.Proofs.Ytegogggemmcgdaa.drainC refDrainC
  have : drainT C i = refDrainT K i := by funext x; simp only [drainT, refDrainT, h.cutV]
  rw [this]
theorem Sync.drainL {C : Cuts} {K : List (Int × Int)} (h : Sync C K) (l : List Msg) (i : Int) : drainL l C i = refDrainL l K i := by
  unfold Go.Proofs.Ytegogggemmcgdaa.drainL refDrainL
  have : drainT C i = refDrainT K i := by funext x; simp only [drainT, refDrainT, h.cutV]
  rw [this]
theorem cutK_len (K : List (Int × Int)) (a b : Int) : (cutK K a b).length ≤ K.length + 1 := by
  unfold cutK keepK
  split
  · have := List.length_filter_le (fun c => !hitB a b c) K
    simp only [List.length_append, List.length_cons, List.length_nil]
    omega
  · omega
theorem joinK_len (K : List (Int × Int)) (a b : Int) : (joinK K a b).length ≤ K.length := by
  unfold joinK keepK
  split
  · exact List.length_filter_le _ _
  · omega
end Go.Proofs.Ytegogggemmcgdaa
