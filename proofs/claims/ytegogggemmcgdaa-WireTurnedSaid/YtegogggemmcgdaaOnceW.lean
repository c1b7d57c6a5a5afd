/- WireOnce: the walk. -/
import Derived.Test.YtegogggemmcgdaaOnceP
namespace Go.Proofs.Ytegogggemmcgdaa
open Go Go.RowKit Go.Proofs

structure AAct where
  kind : Int
  m : Msg
  i : Int
  j : Int
abbrev AAct.vals (a : AAct) : List Value := [.int .i64 a.kind, .int .i64 a.m.frm, .int .i64 a.m.to_, .int .i64 a.m.kind, .int .i64 a.m.n, .int .i64 a.m.low, .int .i64 a.m.mins, .int .i64 a.m.code, .string a.m.text, .int .i64 a.i, .int .i64 a.j]
theorem act_vals_at {l : List AAct} {k : Nat} {x : AAct} (hx : l[k]? = some x) (j : Nat) (hj : j < 11) : (l.flatMap AAct.vals)[k * 11 + j]? = x.vals[j]? := by
  induction l generalizing k with
  | nil => simp at hx
  | cons m l ih =>
    cases k with
    | zero =>
      simp only [List.getElem?_cons_zero, Option.some.injEq] at hx
      subst hx
      simp only [List.flatMap_cons, Nat.zero_mul, Nat.zero_add]
      rw [List.getElem?_append_left (by simpa using hj)]
    | succ k =>
      simp only [List.getElem?_cons_succ] at hx
      have e : (k + 1) * 11 + j = (k * 11 + j) + 11 := by omega
      rw [e]
      simp only [List.flatMap_cons]
      rw [List.getElem?_append_right (by simp)]
      simpa using ih hx
structure ActCells (w : World) (b o : Nat) (x : AAct) : Prop where
  c0 : w.cell? ⟨b, o, none⟩ = some (.int .i64 x.kind)
  c1 : w.cell? ⟨b, o + 1, none⟩ = some (.int .i64 x.m.frm)
  c2 : w.cell? ⟨b, o + 2, none⟩ = some (.int .i64 x.m.to_)
  c3 : w.cell? ⟨b, o + 3, none⟩ = some (.int .i64 x.m.kind)
  c4 : w.cell? ⟨b, o + 4, none⟩ = some (.int .i64 x.m.n)
  c5 : w.cell? ⟨b, o + 5, none⟩ = some (.int .i64 x.m.low)
  c6 : w.cell? ⟨b, o + 6, none⟩ = some (.int .i64 x.m.mins)
  c7 : w.cell? ⟨b, o + 7, none⟩ = some (.int .i64 x.m.code)
  c8 : w.cell? ⟨b, o + 8, none⟩ = some (.string x.m.text)
  c9 : w.cell? ⟨b, o + 9, none⟩ = some (.int .i64 x.i)
  c10 : w.cell? ⟨b, o + 10, none⟩ = some (.int .i64 x.j)
theorem act_cells {w : World} {t : TypeId} {A : Option Addr} {n : Nat} {l : List AAct} (h : Sl w t 11 A n (l.flatMap AAct.vals)) {k : Nat} {x : AAct} (hx : l[k]? = some x) :
    ∃ b o, A = some ⟨b, o, none⟩ ∧ b < w.heap.size ∧ ActCells w b (o + k * 11) x := by
  have hn : 0 < n := by
    rcases Nat.eq_zero_or_pos n with h0 | h0
    · subst h0
      have := act_vals_at hx 0 (by omega)
      rw [h.of_zero] at this
      cases this
    · exact h0
  obtain ⟨b, o, rfl, hb, hc, _⟩ := h.cells hn
  have key : ∀ j u, j < 11 → x.vals[j]? = some u → w.cell? ⟨b, o + k * 11 + j, none⟩ = some u := fun j u hj hu => by
    rw [Nat.add_assoc]
    exact hc _ u ((act_vals_at hx j hj).trans hu)
  exact ⟨b, o, rfl, hb, key 0 _ (by omega) rfl, key 1 _ (by omega) rfl, key 2 _ (by omega) rfl, key 3 _ (by omega) rfl, key 4 _ (by omega) rfl, key 5 _ (by omega) rfl, key 6 _ (by omega) rfl, key 7 _ (by omega) rfl, key 8 _ (by omega) rfl, key 9 _ (by omega) rfl, key 10 _ (by omega) rfl⟩

def encN (l : List Int) : List Value := l.map (Value.int .i64)
theorem encN_len (l : List Int) : (encN l).length = l.length := List.length_map ..
theorem encN_snoc (l : List Int) (v : Int) : encN (l ++ [v]) = encN l ++ [.int .i64 v] := by simp [encN]
/-- the state between two acts; v: the slice of those seen -/
structure NSt (w0 : World) (p m : Nat) (s : Int) (C : Cuts) (l : List Msg) (seen : List Int) (lost : Nat) (v : Value) (w : World) : Prop where
  net : NetAt w p m l C
  row : w.ownsRow w0.heap.size 2 1 v seen.length (encN seen)
  inv : ONInv s l seen lost
  fr : Fr No w0 w
  hp : w0.heap.size ≤ p
  hm : w0.heap.size ≤ m
section
variable {w0 w w' : World} {p m lost : Nat} {s : Int} {C C' : Cuts} {l l' : List Msg} {seen seen' : List Int} {v v' : Value}
theorem row_type {w : World} {base n size : Nat} {e : TypeId} {v : Value} {xs : List Value} (h : w.ownsRow base e size v n xs) (k : Nat) (hk : v.ownBlock = some k) : ∃ cur, w.heap[k]? = some (Obj.cells cur e (0, 0)) := by
  rcases h.2 with ⟨rfl, _⟩ | ⟨g, cap, cur, rfl, h1, h2, h3⟩
  · cases hk
  · simp only [Value.ownBlock, Option.some.injEq] at hk
    subst hk
    exact ⟨cur, h2⟩
theorem NSt.row_p (h : NSt w0 p m s C l seen lost v w) (k : Nat) (hk : v.ownBlock = some k) : k ≠ p := by
  rintro rfl
  obtain ⟨cur, hc⟩ := row_type h.row k hk
  obtain ⟨A, c, hB, _⟩ := h.net
  unfold Blk at hB
  rw [hc] at hB
  injection hB with hB
  injection hB with _ ht
  exact absurd ht (by decide)
theorem NSt.row_m (h : NSt w0 p m s C l seen lost v w) (k : Nat) (hk : v.ownBlock = some k) : k ≠ m := by
  rintro rfl
  obtain ⟨cur, hc⟩ := row_type h.row k hk
  obtain ⟨_, _, _, _, _, hM⟩ := h.net
  exact hM.not_cells _ _ _ hc
theorem NSt.fr0 (h : NSt w0 p m s C l seen lost v w) (hf : Fr No w w') : NSt w0 p m s C l seen lost v w' := ⟨h.net.fr0 hf, own_fr0 h.row hf, h.inv, h.fr.trans hf, h.hp, h.hm⟩
/-- behind a call that changed the net -/
theorem NSt.netp (h : NSt w0 p m s C l seen lost v w) (hf : Fr (· = p) w w') (hn : NetAt w' p m l' C') {s' : Int} {lost' : Nat} (hi : ONInv s' l' seen lost') : NSt w0 p m s' C' l' seen lost' v w' :=
  ⟨hn, own_fr h.row hf (fun k hk => h.row_p k hk), hi, h.fr.step hf (fun i hi => .inr (hi ▸ h.hp)), h.hp, h.hm⟩
theorem NSt.netm (h : NSt w0 p m s C l seen lost v w) (hf : Fr (· = m) w w') (hn : NetAt w' p m l C') : NSt w0 p m s C' l seen lost v w' :=
  ⟨hn, own_fr h.row hf (fun k hk => h.row_m k hk), h.inv, h.fr.step hf (fun i hi => .inr (hi ▸ h.hm)), h.hp, h.hm⟩
end
/-- the same, where the list of those seen is behind the net's -/
structure NSt' (w0 : World) (p m : Nat) (C : Cuts) (l : List Msg) (seen : List Int) (v : Value) (w : World) : Prop where
  net : NetAt w p m l C
  row : w.ownsRow w0.heap.size 2 1 v seen.length (encN seen)
  fr : Fr No w0 w
  hp : w0.heap.size ≤ p
  hm : w0.heap.size ≤ m
section
variable {w0 w w' : World} {p m lost : Nat} {s : Int} {C C' : Cuts} {l l' : List Msg} {seen seen' : List Int} {v v' : Value}
theorem NSt.weak (h : NSt w0 p m s C l seen lost v w) : NSt' w0 p m C l seen v w := ⟨h.net, h.row, h.fr, h.hp, h.hm⟩
theorem NSt'.full (h : NSt' w0 p m C l seen v w) (hi : ONInv s l seen lost) : NSt w0 p m s C l seen lost v w := ⟨h.net, h.row, hi, h.fr, h.hp, h.hm⟩
theorem NSt'.fr0 (h : NSt' w0 p m C l seen v w) (hf : Fr No w w') : NSt' w0 p m C l seen v w' := ⟨h.net.fr0 hf, own_fr0 h.row hf, h.fr.trans hf, h.hp, h.hm⟩
theorem NSt'.netp (h : NSt' w0 p m C l seen v w) (hf : Fr (· = p) w w') (hn : NetAt w' p m l' C') : NSt' w0 p m C' l' seen v w' := by
  refine ⟨hn, own_fr h.row hf (fun k hk => ?_), h.fr.step hf (fun i hi => .inr (hi ▸ h.hp)), h.hp, h.hm⟩
  rintro rfl
  obtain ⟨cur, hc⟩ := row_type h.row k hk
  obtain ⟨A, c, hB, _⟩ := h.net
  unfold Blk at hB
  rw [hc] at hB
  injection hB with hB
  injection hB with _ ht
  exact absurd ht (by decide)
theorem NSt'.grow (h : NSt' w0 p m C l seen v w) {x : Int} (ho : w'.ownsRow w0.heap.size 2 1 v' (seen.length + 1) (encN seen ++ [.int .i64 x])) (hg : w.grownBy w' v.ownBlock) : NSt' w0 p m C l (seen ++ [x]) v' w' := by
  have hne : ∀ k, v.ownBlock = some k → ∃ cur, w.heap[k]? = some (Obj.cells cur 2 (0, 0)) := row_type h.row
  refine ⟨h.net.fr (Fr.of_grown hg) ?_ ?_ ?_, ?_, h.fr.grown hg (fun k hk => .inr (own_size h.row k hk).1), h.hp, h.hm⟩
  · intro e
    obtain ⟨cur, hc⟩ := hne p e.symm
    obtain ⟨A, c, hB, _⟩ := h.net
    unfold Blk at hB
    rw [hc] at hB
    injection hB with hB
    injection hB with _ ht
    exact absurd ht (by decide)
  · intro e
    obtain ⟨cur, hc⟩ := hne m e.symm
    obtain ⟨_, _, _, _, _, hM⟩ := h.net
    exact hM.not_cells _ _ _ hc
  · intro b cur fr hb e
    obtain ⟨cur', hc⟩ := hne b e.symm
    rw [hc] at hb
    injection hb with hb
    injection hb with _ ht
    exact absurd ht (by decide)
  · rw [encN_snoc, List.length_append]
    exact ho
end
theorem takeR_cases (l : List Msg) (C : Cuts) (i : Int) : (∃ k x, l[k]? = some x ∧ takeR l C i = (x, 0, l.eraseIdx k)) ∨ (∃ e, e ≠ 0 ∧ takeR l C i = (zeroMsg, e, l)) := by
  unfold takeR
  split
  · split
    · rename_i x hx
      split
      · exact .inr ⟨5, by omega, rfl⟩
      · exact .inl ⟨_, _, hx, rfl⟩
    · exact .inr ⟨30, by omega, rfl⟩
  · exact .inr ⟨30, by omega, rfl⟩
theorem lose_cases (l : List Msg) (i : Int) : (∃ k x, l[k]? = some x ∧ atE i l.length = 0 ∧ (if inL i l.length then l.eraseIdx i.toNat else l) = l.eraseIdx k) ∨ (atE i l.length = 30 ∧ (if inL i l.length then l.eraseIdx i.toNat else l) = l) := by
  cases h : inL i l.length with
  | false => exact .inr ⟨by simp [atE, h], by simp⟩
  | true =>
    simp only [inL, Bool.and_eq_true, decide_eq_true_eq] at h
    exact .inl ⟨i.toNat, _, List.getElem?_eq_getElem (by omega), by simp [atE, inL, h], by simp⟩
def WRel (w0 : World) (p m g : Nat) (v4 v5 v6 v7 : Value) (wr : World) : Prop :=
  ∃ (k : Nat) (s : Int) (C : Cuts) (l : List Msg) (seen : List Int) (lost : Nat) (v : Value), k + g = 120 ∧ v7 = .int .i64 k ∧ v4 = .int .i64 s ∧ v = v5 ∧ v6 = .int .i64 lost ∧ s ≤ k ∧ NSt w0 p m s C l seen lost v wr
end Go.Proofs.Ytegogggemmcgdaa
