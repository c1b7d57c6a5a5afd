/- wire: out, Take, Lose, Twice. -/
import Derived.Test.YtegogggemmcgdaaWireG
namespace Go.Proofs.Ytegogggemmcgdaa
open Go Go.RowKit Go.Proofs

/-- the list of p lies in a block from B on -/
def LFresh (w : World) (p B : Nat) : Prop := ∀ A n c, w.cell? ⟨p, 0, none⟩ = some (.slice A n c) → ∀ a, A = some a → B ≤ a.block
theorem Sl.frA {S : Nat → Prop} {w w' : World} {t : TypeId} {sz n : Nat} {A : Option Addr} {xs : List Value} (h : Sl w t sz A n xs) (hf : Fr S w w') (hA : ∀ a, A = some a → ¬ S a.block) : Sl w' t sz A n xs :=
  ⟨h.1, fun hn => by
    obtain ⟨b, o, cur, fr, e, hb, hx⟩ := h.2 hn
    exact ⟨b, o, cur, fr, e, (hf.block b (lt_of_heap hb) (hA _ e)).trans hb, hx⟩⟩
theorem NetAt.frA {S : Nat → Prop} {w w' : World} {p m : Nat} {l : List Msg} {C : Cuts} (h : NetAt w p m l C) (hf : Fr S w w') (hp : ¬ S p) (hm : ¬ S m) (hA : ∀ A n c, w.cell? ⟨p, 0, none⟩ = some (.slice A n c) → ∀ a, A = some a → ¬ S a.block) : NetAt w' p m l C := by
  obtain ⟨A, c, hB, hS', hc, hM⟩ := h
  exact ⟨A, c, hB.fr hf hp, hS'.frA hf (hA A _ c (hB.cell 0)), hc, hM.fr hf hm⟩
theorem own_shape {w : World} {base n size : Nat} {e : TypeId} {v : Value} {xs : List Value} (h : w.ownsRow base e size v n xs) : ∃ A c, v = .slice A n c ∧ n ≤ c := by
  rcases h.2 with ⟨rfl, rfl⟩ | ⟨g, cap, cur, rfl, _, _, hc, _⟩
  · exact ⟨_, _, rfl, Nat.le_refl _⟩
  · exact ⟨_, _, rfl, hc⟩
theorem Sl.take {w : World} {t : TypeId} {sz n k : Nat} {A : Option Addr} {xs : List Value} (h : Sl w t sz A n xs) (hk : k ≤ n) : Sl w t sz A k (xs.take (k * sz)) := by
  refine ⟨?_, fun hp => ?_⟩
  · rw [List.length_take, h.1]
    have := Nat.mul_le_mul_right sz hk
    omega
  · obtain ⟨b, o, cur, fr, rfl, hb, hx⟩ := h.2 (by omega)
    refine ⟨b, o, cur, fr, rfl, hb, fun j u hu => ?_⟩
    rw [List.getElem?_take] at hu
    split at hu
    · exact hx j u hu
    · cases hu
theorem Sl.drop {w : World} {t : TypeId} {sz n k m : Nat} {A : Option Addr} {xs : List Value} (h : Sl w t sz A n xs) (hk : k ≤ n) (hm : n ≤ m) :
    Sl w t sz (if m = k then A else Option.map (fun x => x.add (k * sz)) A) (n - k) (xs.drop (k * sz)) := by
  have h1 := h.cut (l := k) (k := n) (c := 0) (m := m) hk (Nat.le_refl _) hm
  rwa [List.take_of_length_le (by rw [List.length_drop, h.1, Nat.sub_mul]; omega)] at h1
theorem vals_take (l : List Msg) (k : Nat) : (l.flatMap Msg.vals).take (k * 8) = (l.take k).flatMap Msg.vals := by
  induction l generalizing k with
  | nil => simp
  | cons m l ih =>
    cases k with
    | zero => simp
    | succ k =>
      have e : (k + 1) * 8 = k * 8 + 8 := by omega
      rw [e]
      simp only [List.flatMap_cons, List.take_succ_cons, List.cons_append, List.nil_append, ih]
theorem vals_drop (l : List Msg) (k : Nat) : (l.flatMap Msg.vals).drop (k * 8) = (l.drop k).flatMap Msg.vals := by
  induction l generalizing k with
  | nil => simp
  | cons m l ih =>
    cases k with
    | zero => simp
    | succ k =>
      have e : (k + 1) * 8 = k * 8 + 8 := by omega
      rw [e]
      simp only [List.flatMap_cons, List.drop_succ_cons, List.cons_append, List.nil_append, ih]

set_option maxRecDepth 100000 in
set_option maxHeartbeats 1000000 in
theorem out_any (p m : Nat) (l : List Msg) (C : Cuts) (k : Nat) (w : World) (h : NetAt w p m l C) (hk : k < l.length) (hl : l.length ≤ 1000) :
    Calls Try.prog 58 #[.pointer (some ⟨p, 0, none⟩), .int .i64 k] w fun e w' => e = .returned (.tuple #[]) ∧ NetAt w' p m (l.eraseIdx k) C ∧ Fr (· = p) w w' ∧ LFresh w' p w.heap.size := by
  obtain ⟨A, c, hB, hS, hc, hM⟩ := h
  have h0 := hB.cell 0
  simp only [List.getElem?_cons_zero] at h0
  have z0 := hB.lt
  have i1 : (0 : Int) ≤ (k : Int) := by omega
  have i2 : (k : Int) < (l.length : Int) := by omega
  have i3 : (k : Int) ≤ (c : Int) := by omega
  have i4 : (k : Int) + 1 ≤ (l.length : Int) := by omega
  have i5 : (l.length : Int) ≤ (c : Int) := by omega
  have i6 : (k : Int) ≤ 1000 := by omega
  have i7 : IntKind.i64.wrap ((k : Int) + 1) = (k : Int) + 1 := IntWalk.i64_in _ (by omega)
  have i8 : (0 : Int) ≤ (k : Int) + 1 := by omega
  have i9 : ((k : Int) + 1).toNat = k + 1 := by omega
  go_enter Try.func58, Try.ntmps58
  go_wp2
  refine wp_region_o [(0, 0), (1, 0), (2, 0), (3, 0), (5, 0), (6, 0), (8, 0), (9, 0), (10, 0), (12, 0), (13, 0), (4, 1), (7, 0), (11, 1), (14, 0), (15, 2), (16, 2), (17, 0), (18, 0), (19, 3)] (by kernel_rfl) (by kernel_rfl) ?_
  repeat (first
    | (apply wpO_pure rfl rfl; (focus (intro w'; go_simp; (try rfl); done)); try simp only [Act.put, List.setIfInBounds_toArray, List.set_cons_zero, List.set_cons_succ])
    | (apply wpO_read rfl rfl; (focus (intro w' hf' hs'; (try simp only [World.size_drew, World.cell?_drew, World.size_alloc, World.size_setCell] at hs'); go_simp; (try rfl); done)); try simp only [Act.put, List.setIfInBounds_toArray, List.set_cons_zero, List.set_cons_succ])
    | (apply wpO_skip (by decide) rfl rfl; try simp only [Act.put, List.setIfInBounds_toArray, List.set_cons_zero, List.set_cons_succ]))

  refine wpO_loudE rfl fun K hK => ?_
  go_simp
  refine hK _ _ ⟨by (repeat (first | exact Fr.refl _ _ | assumption | refine Fr.drew ?_ | refine Fr.alloc ?_ _ | refine Fr.drewL ?_)), ?_⟩
  clear hK K
  repeat (first
    | (apply wpO_pure rfl rfl; (focus (intro w'; go_simp; (try rfl); done)); try simp only [Act.put, List.setIfInBounds_toArray, List.set_cons_zero, List.set_cons_succ])
    | (apply wpO_read rfl rfl; (focus (intro w' hf' hs'; (try simp only [World.size_drew, World.cell?_drew, World.size_alloc, World.size_setCell] at hs'); go_simp; (try rfl); done)); try simp only [Act.put, List.setIfInBounds_toArray, List.set_cons_zero, List.set_cons_succ])
    | (apply wpO_skip (by decide) rfl rfl; try simp only [Act.put, List.setIfInBounds_toArray, List.set_cons_zero, List.set_cons_succ]))
  have hfA : Fr No w (w.alloc (Obj.cells #[.slice A k k, .slice (if c = k + 1 then A else Option.map (fun x => x.add ((k + 1) * 8)) A) (l.length - (k + 1)) (c - (k + 1))] 44)).drew := by (repeat (first | exact Fr.refl _ _ | assumption | refine Fr.drew ?_ | refine Fr.alloc ?_ _ | refine Fr.drewL ?_))
  have s1 : Sl w 28 8 A (l.take k).length ((l.take k).flatMap Msg.vals) := by
    rw [← vals_take, List.length_take, Nat.min_eq_left (by omega)]
    exact hS.take (by omega)
  have s2 : Sl w 28 8 (if c = k + 1 then A else Option.map (fun x => x.add ((k + 1) * 8)) A) (l.drop (k + 1)).length ((l.drop (k + 1)).flatMap Msg.vals) := by
    rw [← vals_drop, List.length_drop]
    exact hS.drop (by omega) (by omega)
  have sb := Blk.new w 44 [.slice A k k, .slice (if c = k + 1 then A else Option.map (fun x => x.add ((k + 1) * 8)) A) (l.length - (k + 1)) (c - (k + 1))]
  have sb' : Blk (w.alloc (Obj.cells #[.slice A k k, .slice (if c = k + 1 then A else Option.map (fun x => x.add ((k + 1) * 8)) A) (l.length - (k + 1)) (c - (k + 1))] 44)).drew w.heap.size 44
      [.slice A (l.take k).length k, .slice (if c = k + 1 then A else Option.map (fun x => x.add ((k + 1) * 8)) A) (l.drop (k + 1)).length (c - (k + 1))] := by
    rw [List.length_take, Nat.min_eq_left (by omega), List.length_drop]
    exact sb
  have S1 := Lib.hid (s1.fr0 hfA)
  have S2 := Lib.hid (s2.fr0 hfA)
  have SB := Lib.hid sb'
  clear s1 s2 sb sb'
  refine wpO_loudE rfl fun K hK => ?_
  go_simp
  refine (concat_two _ _ _ _ _ (l.take k) (l.drop (k + 1)) _ SB.out S1.out S2.out (by rw [List.length_take]; omega) (by rw [List.length_drop]; omega)).mono ?_
  rintro e w1 ⟨v, rfl, hown, hf1⟩
  have hlen : (l.take k).length + (l.drop (k + 1)).length = (l.eraseIdx k).length := by rw [List.length_take, List.length_drop, List.length_eraseIdx]; simp [hk]; omega
  have hcat : l.take k ++ l.drop (k + 1) = l.eraseIdx k := (List.eraseIdx_eq_take_drop_succ l k).symm
  rw [hlen, hcat] at hown
  obtain ⟨A2, c2, rfl, hc2⟩ := own_shape hown
  refine hK _ _ ⟨hf1, ?_⟩
  clear hK K hlen hcat
  try simp only [Act.put, List.setIfInBounds_toArray, List.set_cons_zero, List.set_cons_succ]
  have hF := hfA.trans hf1
  have hB1 := hB.fr hF (fun h => h)
  have q0 := hB1.cell 0
  have q1 := hB1.frozen 0
  simp only [List.getElem?_cons_zero] at q0
  have q2 := hB1.lt
  repeat (first
    | (apply wpO_pure rfl rfl; (focus (intro w'; go_simp; (try rfl); done)); try simp only [Act.put, List.setIfInBounds_toArray, List.set_cons_zero, List.set_cons_succ])
    | (apply wpO_read rfl rfl; (focus (intro w' hf' hs'; (try simp only [World.size_drew, World.cell?_drew, World.size_alloc, World.size_setCell] at hs'); go_simp; (try rfl); done)); try simp only [Act.put, List.setIfInBounds_toArray, List.set_cons_zero, List.set_cons_succ])
    | (apply wpO_skip (by decide) rfl rfl; try simp only [Act.put, List.setIfInBounds_toArray, List.set_cons_zero, List.set_cons_succ]))
  refine wpO_loud rfl fun K hK => ?_
  go_simp
  refine hK _ _ ?_
  clear hK K
  repeat (first
    | (apply wpO_pure rfl rfl; (focus (intro w'; go_simp; (try rfl); done)); try simp only [Act.put, List.setIfInBounds_toArray, List.set_cons_zero, List.set_cons_succ])
    | (apply wpO_read rfl rfl; (focus (intro w' hf' hs'; (try simp only [World.size_drew, World.cell?_drew, World.size_alloc, World.size_setCell] at hs'); go_simp; (try rfl); done)); try simp only [Act.put, List.setIfInBounds_toArray, List.set_cons_zero, List.set_cons_succ])
    | (apply wpO_skip (by decide) rfl rfl; try simp only [Act.put, List.setIfInBounds_toArray, List.set_cons_zero, List.set_cons_succ]))
  refine wpO_nil ?_
  go_end0
  refine ⟨rfl, ⟨A2, c2, hB1.set_ 0 _, ?_, hc2, ?_⟩, (hF.any (· = p)).setCell (.inl rfl) _, ?_⟩
  · exact (Sl.of_own hown).far hB1 (by decide) rfl _
  · exact (hM.fr hF (fun h => h)).far (p := ⟨p, 0, none⟩) (((hM.fr hF (fun h => h)).ne hB1)).symm _
  · intro A' n' c' hA' a ha
    rw [(hB1.set_ 0 (.slice A2 (l.eraseIdx k).length c2)).cell 0] at hA'
    simp only [List.set_cons_zero, List.getElem?_cons_zero, Option.some.injEq, Value.slice.injEq] at hA'
    obtain ⟨rfl, _, _⟩ := hA'
    have := (hown.lt a.block (by simp [Value.ownBlock, ha])).1
    have h2 := hfA.size
    omega
end Go.Proofs.Ytegogggemmcgdaa
