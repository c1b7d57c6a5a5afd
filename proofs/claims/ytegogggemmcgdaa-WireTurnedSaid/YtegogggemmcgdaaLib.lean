/- Frames, blocks, slices that read as lists, append: words shared by all walks of this seat. -/
import Derived.WalkKit
import Derived.WalkSpells
import Derived.Deep.QuietTactic
import Derived.BigQuiet
import Derived.Deep.RegionHeld3
import Derived.Deep.AppendLies
import Derived.Deep.RegionLawGrows
import Derived.Maps.AppendAt
import Derived.Lib.Hide
namespace Go.Proofs.Ytegogggemmcgdaa
open Go Go.RowKit

/-! ### Frames: only blocks of S, and new ones, may have changed -/
structure Fr (S : Nat → Prop) (w w' : World) : Prop where
  os : w'.os = w.os
  tape : w'.tape = w.tape
  output : w'.output = w.output
  size : w.heap.size ≤ w'.heap.size
  block : ∀ k, k < w.heap.size → ¬ S k → w'.heap[k]? = w.heap[k]?

abbrev No : Nat → Prop := fun _ => False

section
variable {S S' : Nat → Prop} {a b c w w' : World}
theorem Fr.refl (S : Nat → Prop) (w : World) : Fr S w w := ⟨rfl, rfl, rfl, Nat.le_refl _, fun _ _ _ => rfl⟩
theorem Fr.trans (h : Fr S a b) (k : Fr S b c) : Fr S a c :=
  ⟨k.os.trans h.os, k.tape.trans h.tape, k.output.trans h.output, Nat.le_trans h.size k.size,
   fun i hi hn => (k.block i (Nat.lt_of_lt_of_le hi h.size) hn).trans (h.block i hi hn)⟩
theorem Fr.mono (h : Fr S a b) (hs : ∀ k, k < a.heap.size → S k → S' k) : Fr S' a b :=
  ⟨h.os, h.tape, h.output, h.size, fun i hi hn => h.block i hi (fun hS => hn (hs i hi hS))⟩
/-- a step that touches S', which lies in S or is new -/
theorem Fr.step (h : Fr S a b) (k : Fr S' b c) (hs : ∀ i, S' i → S i ∨ a.heap.size ≤ i) : Fr S a c :=
  ⟨k.os.trans h.os, k.tape.trans h.tape, k.output.trans h.output, Nat.le_trans h.size k.size,
   fun i hi hn => (k.block i (Nat.lt_of_lt_of_le hi h.size) (fun hS => by
     rcases hs i hS with h1 | h1
     · exact hn h1
     · omega)).trans (h.block i hi hn)⟩
theorem Fr.any (h : Fr No a b) (S : Nat → Prop) : Fr S a b := h.mono fun _ _ hf => hf.elim
theorem Fr.drew (h : Fr S a w) : Fr S a w.drew := ⟨h.os, h.tape, h.output, h.size, h.block⟩
theorem Fr.drewL (h : Fr S a w) : Fr S a.drew w := ⟨h.os, h.tape, h.output, h.size, h.block⟩
theorem Fr.drewN (h : Fr S a w) (n : Nat) : Fr S a (w.drewN n) := ⟨h.os, h.tape, h.output, h.size, h.block⟩
theorem Fr.alloc (h : Fr S a w) (o : Obj) : Fr S a (w.alloc o) :=
  ⟨h.os, h.tape, h.output, Nat.le_trans h.size (by simp), fun i hi hn => (Below.heap_alloc w o i (Nat.lt_of_lt_of_le hi h.size)).trans (h.block i hi hn)⟩
theorem Fr.setCell (h : Fr S a w) {p : Addr} (hp : S p.block ∨ a.heap.size ≤ p.block) (u : Value) : Fr S a (w.setCell p u) :=
  ⟨h.os, h.tape, h.output, by simpa [World.setCell] using h.size, fun i hi hn => (Below.heap_setCell w p u i (by
    rintro rfl
    rcases hp with h1 | h1
    · exact hn h1
    · omega)).trans (h.block i hi hn)⟩
theorem Fr.grown {row : Option Nat} (h : Fr S a w) (hg : w.grownBy w' row) (hr : ∀ k, row = some k → S k ∨ a.heap.size ≤ k) : Fr S a w' :=
  ⟨hg.os.trans h.os, hg.tape.trans h.tape, hg.output.trans h.output, Nat.le_trans h.size hg.size, fun i hi hn =>
    (hg.block i (Nat.lt_of_lt_of_le hi h.size) (fun e => by
      rcases hr i e.symm with h1 | h1
      · exact hn h1
      · omega)).trans (h.block i hi hn)⟩
theorem Fr.of_grown {row : Option Nat} (hg : w.grownBy w' row) : Fr (fun k => some k = row) w w' :=
  ⟨hg.os, hg.tape, hg.output, hg.size, fun i hi hn => hg.block i hi hn⟩
theorem Fr.below (h : Fr S a w) {B : Nat} (hB : B ≤ a.heap.size) (hS : ∀ k, S k → B ≤ k) : Below B a w :=
  ⟨h.os, h.tape, h.output, h.size, fun k hk => h.block k (by omega) (fun hs => by have := hS k hs; omega)⟩
theorem Fr.of_below (h : Below a.heap.size a w) : Fr S a w := ⟨h.os, h.tape, h.output, h.size, fun k hk _ => h.block k hk⟩
theorem Fr.cell (h : Fr S a w) {p : Addr} (hp : p.block < a.heap.size) (hn : ¬ S p.block) : w.cell? p = a.cell? p := World.cell?_of_block (h.block p.block hp hn)
theorem Fr.frozen (h : Fr S a w) {p : Addr} (hp : p.block < a.heap.size) (hn : ¬ S p.block) : w.frozen? p = a.frozen? p := World.frozen?_of_block (h.block p.block hp hn)
theorem Fr.cells (h : Fr No a w) : ∀ b o, b < a.heap.size → w.cell? ⟨b, o, none⟩ = a.cell? ⟨b, o, none⟩ := fun b o hb => h.cell (p := ⟨b, o, none⟩) hb (fun hf => hf)
theorem Fr.frozens (h : Fr No a w) : ∀ b o, b < a.heap.size → w.frozen? ⟨b, o, none⟩ = a.frozen? ⟨b, o, none⟩ := fun b o hb => h.frozen (p := ⟨b, o, none⟩) hb (fun hf => hf)
end

/-- a map's (or another object's) block is another one now -/
def setObjAt (w : World) (r : Nat) (o : Obj) : World := { w with heap := w.heap.setIfInBounds r o }
theorem setObjAt_same (w : World) (r : Nat) (o : Obj) (h : r < w.heap.size) : (setObjAt w r o).heap[r]? = some o := by simp [setObjAt, h]
theorem setObjAt_other (w : World) (r k : Nat) (o : Obj) (h : r ≠ k) : (setObjAt w r o).heap[k]? = w.heap[k]? := by simp [setObjAt, Array.getElem?_setIfInBounds_ne h]
theorem Fr.setObj {S : Nat → Prop} {a w : World} (h : Fr S a w) {r : Nat} (hp : S r ∨ a.heap.size ≤ r) (o : Obj) : Fr S a (setObjAt w r o) :=
  ⟨h.os, h.tape, h.output, by simpa [setObjAt] using h.size, fun i hi hn => (setObjAt_other w r i o (by
    rintro rfl
    rcases hp with h1 | h1
    · exact hn h1
    · omega)).trans (h.block i hi hn)⟩

/-! ### Blocks known whole -/
def Blk (w : World) (g : Nat) (t : TypeId) (cs : List Value) : Prop := w.heap[g]? = some (.cells cs.toArray t (0, 0))
section
variable {w w' : World} {g : Nat} {t : TypeId} {cs : List Value}
theorem lt_of_heap {o : Obj} (h : w.heap[g]? = some o) : g < w.heap.size := (Array.getElem?_eq_some_iff.1 h).1
theorem Blk.lt (h : Blk w g t cs) : g < w.heap.size := lt_of_heap h
theorem Blk.cell (h : Blk w g t cs) (i : Nat) : w.cell? ⟨g, i, none⟩ = cs[i]? := by
  have := cell_of_row w g i cs.toArray t (0, 0) h
  simpa using this
theorem Blk.frozen (h : Blk w g t cs) (i : Nat) : w.frozen? ⟨g, i, none⟩ = false := by
  unfold Blk at h
  simp [World.frozen?, h]
theorem Blk.frozens (h : Blk w g t cs) : ∀ i, w.frozen? ⟨g, i, none⟩ = false := h.frozen
theorem Blk.new (w : World) (t : TypeId) (cs : List Value) : Blk (w.alloc (.cells cs.toArray t)) w.heap.size t cs := heap_alloc_new w _
theorem Blk.drew (h : Blk w g t cs) : Blk w.drew g t cs := h
theorem Blk.drewN (h : Blk w g t cs) (n : Nat) : Blk (w.drewN n) g t cs := h
theorem Blk.alloc (h : Blk w g t cs) (o : Obj) : Blk (w.alloc o) g t cs := (Below.heap_alloc w o g h.lt).trans h
theorem Blk.set_ (h : Blk w g t cs) (i : Nat) (u : Value) : Blk (w.setCell ⟨g, i, none⟩ u) g t (cs.set i u) := by
  unfold Blk at h ⊢
  simp [World.setCell, Array.getElem?_modify, h]
theorem Blk.far (h : Blk w g t cs) {p : Addr} (hp : g ≠ p.block) (u : Value) : Blk (w.setCell p u) g t cs := (Below.heap_setCell w p u g hp).trans h
theorem Blk.obj (h : Blk w g t cs) {r : Nat} (hp : r ≠ g) (o : Obj) : Blk (setObjAt w r o) g t cs := (setObjAt_other w r g o hp).trans h
theorem Blk.fr {S : Nat → Prop} (h : Blk w g t cs) (hf : Fr S w w') (hS : ¬ S g) : Blk w' g t cs := (hf.block g h.lt hS).trans h
theorem Blk.ne_ {g' : Nat} {t' : TypeId} {cs' : List Value} (h : Blk w g t cs) (h' : Blk w g' t' cs') (hne : t ≠ t') : g ≠ g' := by
  rintro rfl
  unfold Blk at h h'
  rw [h] at h'
  injection h' with h'
  injection h' with _ ht
  exact hne ht
theorem Blk.ne_map {r : Nat} {es : Array MapEntry} {ck : Nat} (h : Blk w g t cs) (h' : w.heap[r]? = some (.map es ck)) : g ≠ r := by
  rintro rfl
  unfold Blk at h
  rw [h] at h'
  cases h'
end

/-- whatever lay in W reads as it did -/
abbrev Sup (W w : World) : Prop := ∀ b o, b < W.heap.size → w.cell? ⟨b, o, none⟩ = W.cell? ⟨b, o, none⟩
theorem Sup.refl (W : World) : Sup W W := fun _ _ _ => rfl
theorem Sup.of_fr {W w : World} (h : Fr No W w) : Sup W w := h.cells

/-! ### Slices that read as lists of cells: n elements of sz cells each, in a block of element type t -/
def Sl (w : World) (t : TypeId) (sz : Nat) (A : Option Addr) (n : Nat) (xs : List Value) : Prop :=
  xs.length = n * sz ∧ (0 < n → ∃ b o cur fr, A = some ⟨b, o, none⟩ ∧ w.heap[b]? = some (Obj.cells cur t fr) ∧ ∀ j u, xs[j]? = some u → cur[o + j]? = some u)

theorem add_off (b o n : Nat) : (⟨b, o, none⟩ : Addr).add n = ⟨b, o + n, none⟩ := by
  unfold Addr.add
  split <;> simp_all

section
variable {w w' : World} {t : TypeId} {sz n : Nat} {A : Option Addr} {xs : List Value}
theorem Sl.nil (w : World) (t : TypeId) (sz : Nat) (A : Option Addr) : Sl w t sz A 0 [] := ⟨by simp, fun h => absurd h (by omega)⟩
theorem Sl.of_zero (h : Sl w t sz A 0 xs) : xs = [] := List.eq_nil_of_length_eq_zero (by simpa using h.1)
theorem Sl.cells (h : Sl w t sz A n xs) (hn : 0 < n) : ∃ b o, A = some ⟨b, o, none⟩ ∧ b < w.heap.size ∧ (∀ j u, xs[j]? = some u → w.cell? ⟨b, o + j, none⟩ = some u) ∧ ∃ cur fr, w.heap[b]? = some (Obj.cells cur t fr) := by
  obtain ⟨b, o, cur, fr, rfl, hb, hx⟩ := h.2 hn
  refine ⟨b, o, rfl, lt_of_heap hb, fun j u hu => ?_, cur, fr, hb⟩
  rw [cell_of_row w b (o + j) cur t fr hb]
  exact hx j u hu
theorem Sl.kept (h : Sl w t sz A n xs) (hk : ∀ (b : Nat) cur fr, w.heap[b]? = some (Obj.cells cur t fr) → w'.heap[b]? = w.heap[b]?) : Sl w' t sz A n xs :=
  ⟨h.1, fun hn => by
    obtain ⟨b, o, cur, fr, e, hb, hx⟩ := h.2 hn
    exact ⟨b, o, cur, fr, e, (hk b cur fr hb).trans hb, hx⟩⟩
theorem Sl.drew (h : Sl w t sz A n xs) : Sl w.drew t sz A n xs := h
theorem Sl.drewN (h : Sl w t sz A n xs) (k : Nat) : Sl (w.drewN k) t sz A n xs := h
theorem Sl.alloc (h : Sl w t sz A n xs) (o : Obj) : Sl (w.alloc o) t sz A n xs := h.kept fun b _ _ hb => Below.heap_alloc w o b (lt_of_heap hb)
theorem Sl.obj (h : Sl w t sz A n xs) {r : Nat} {o' : Obj} (hr : w.heap[r]? = some o') (hne : ∀ cur fr, o' ≠ Obj.cells cur t fr) (o : Obj) : Sl (setObjAt w r o) t sz A n xs :=
  h.kept fun b cur fr hb => setObjAt_other w r b o (by rintro rfl; rw [hr] at hb; injection hb with hb; exact hne _ _ hb)
theorem Sl.far {g : Nat} {t' : TypeId} {cs : List Value} (h : Sl w t sz A n xs) (hg : Blk w g t' cs) (hne : t ≠ t') {p : Addr} (hp : p.block = g) (u : Value) : Sl (w.setCell p u) t sz A n xs :=
  h.kept fun b cur fr hb => Below.heap_setCell w p u b (by
    rintro rfl
    unfold Blk at hg
    rw [← hp, hb] at hg
    injection hg with hg
    injection hg with _ ht
    exact hne ht)
theorem Sl.fr {S : Nat → Prop} (h : Sl w t sz A n xs) (hf : Fr S w w') (hS : ∀ (b : Nat) cur fr, w.heap[b]? = some (Obj.cells cur t fr) → ¬ S b) : Sl w' t sz A n xs :=
  h.kept fun b cur fr hb => hf.block b (lt_of_heap hb) (hS b cur fr hb)
theorem Sl.fr0 (h : Sl w t sz A n xs) (hf : Fr No w w') : Sl w' t sz A n xs := h.fr hf fun _ _ _ _ hF => hF
/-- a cut -/
theorem Sl.cut (h : Sl w t sz A n xs) {l k c m : Nat} (hl : l ≤ k) (hk : k ≤ n) (hm : k ≤ m) :
    Sl w t sz (if m = l then A else A.map (·.add (l * sz))) (k - l) ((xs.drop (l * sz)).take ((k - l) * sz)) := by
  refine ⟨?_, fun hn => ?_⟩
  · rw [List.length_take, List.length_drop, h.1]
    have h1 : (k - l) * sz = k * sz - l * sz := Nat.sub_mul ..
    have h2 : k * sz ≤ n * sz := Nat.mul_le_mul_right _ hk
    omega
  · obtain ⟨b, o, cur, fr, rfl, hb, hx⟩ := h.2 (by omega)
    rw [if_neg (by omega)]
    refine ⟨b, o + l * sz, cur, fr, by simp [add_off], hb, fun j u hu => ?_⟩
    rw [List.getElem?_take] at hu
    split at hu
    · rw [List.getElem?_drop] at hu
      rw [Nat.add_assoc]
      exact hx _ u hu
    · cases hu
theorem Sl.of_own {base : Nat} {c : Nat} (h : w.ownsRow base t sz (.slice A n c) n xs) : Sl w t sz A n xs := by
  refine ⟨h.1, fun hn => ?_⟩
  rcases h.2 with ⟨_, h0⟩ | ⟨g, cap, cur, hv, _, hg, _, _, _, htake⟩
  · omega
  · injection hv with hA
    refine ⟨g, 0, cur, (0, 0), hA, hg, fun j u hu => ?_⟩
    rw [← htake, List.getElem?_take] at hu
    split at hu
    · simpa using hu
    · cases hu
/-- a new row -/
theorem Sl.of_new (w : World) (t : TypeId) (sz n : Nat) (cur : Array Value) (xs : List Value) (hl : xs.length = n * sz) (hx : cur.toList.take (n * sz) = xs) :
    Sl (w.alloc (.cells cur t)) t sz (some ⟨w.heap.size, 0, none⟩) n xs := by
  refine ⟨hl, fun _ => ⟨w.heap.size, 0, cur, (0, 0), rfl, heap_alloc_new w _, fun j u hu => ?_⟩⟩
  rw [← hx, List.getElem?_take] at hu
  split at hu
  · simpa using hu
  · cases hu
end

/-! ### append, where a new row is made -/
section
variable {P : Program}
theorem wp_append_new {o : Oper} {a : Act} {w : World} {K : Act → World → Prop} {Q : Exit → Act → World → Prop} (s x : Operand) (t : TypeId)
    (ho : o.op = .call { callee := .builtin .append, args := #[s, x], argTypes := #[t, t] })
    (e : TypeId) (i : TypeInfo) (z : Value) (size bytes : Nat) (ht : P.underlying t = some (.slice e)) (hi : P.info? e = some i) (hz : i.zero = some z)
    (hsize : i.size = size) (hby : i.bytes = bytes) (hzs : z.cells.size = size)
    (A : Option Addr) (n c : Nat) (xs : List Value) (hs : a.eval s = .slice A n c) (hS : Sl w e size A n xs)
    (A2 : Option Addr) (m c2 : Nat) (e2 : TypeId) (news : List Value) (hx : a.eval x = .slice A2 m c2) (hX : Sl w e2 size A2 m news)
    (hcap : c < n + m) (hnc : n ≤ c) (h63 : n + m ≤ maxLen) (hbytes : (n + m) * bytes ≤ 140737488355328)
    (h : ∀ cap cur, n + m ≤ cap → cap ≤ maxLen → cur.size = cap * size → cur.toList.take ((n + m) * size) = xs ++ news →
      K (a.put o.dst (.slice (some ⟨w.heap.size, 0, none⟩) (n + m) cap)) (w.drew.alloc (.cells cur e))) : o.wp P a w K Q := by
  subst hsize
  subst hby
  have hm : 0 < m := by omega
  obtain ⟨b2, o2, rfl, _, hc2, _⟩ := hX.cells hm
  have hfit := growslice_fits (need := n + m) (old := c) (bytes := i.bytes) (by omega) hbytes
  have hge := grownCap_ge w (n + m) c e
  have hle := grownCap_le_maxLen w (n + m) c e h63
  have hold : (Builtin.firstCells i.size n (.slice A n c)).run P w.drew = .ok xs.toArray w.drew := by
    rcases A with _ | ad
    · have h0 : n = 0 := by
        rcases Nat.eq_zero_or_pos n with h0 | h0
        · exact h0
        · obtain ⟨b, o', hA, _⟩ := hS.cells h0
          cases hA
      subst h0
      rw [hS.of_zero]
      simp [Builtin.firstCells]
    · refine run_firstCells_some (P := P) w.drew i.size n ad n c xs hS.1 fun j v hv => ?_
      rcases Nat.eq_zero_or_pos n with h0 | h0
      · subst h0
        rw [hS.of_zero] at hv
        simp at hv
      · obtain ⟨b, o', hA, _, hc, _⟩ := hS.cells h0
        injection hA with hA
        subst hA
        rw [add_off]
        exact hc j v hv
  have hnew : (Builtin.firstCells i.size m (.slice (some ⟨b2, o2, none⟩) m c2)).run P w.drew = .ok news.toArray w.drew :=
    run_firstCells_some (P := P) w.drew i.size m ⟨b2, o2, none⟩ m c2 news hX.1 fun j v hv => by rw [add_off]; exact hc2 j v hv
  have hlen : (xs ++ news).length = (n + m) * i.size := by rw [List.length_append, hS.1, hX.1, Nat.add_mul]
  have hrun : (Builtin.append_ #[t, t] o.type #[.slice A n c, .slice (some ⟨b2, o2, none⟩) m c2]).run P w =
      .ok (.slice (some ⟨w.heap.size, 0, none⟩) (n + m) (grownCap w (n + m) c e))
        (w.drew.alloc (.cells (xs.toArray ++ news.toArray ++ Builtin.zeroCells z.cells (grownCap w (n + m) c e - (n + m))) e)) := by
    have h1 : ¬ (n + m ≤ c) := by omega
    have h2 : ¬ (281474976710656 < Builtin.nextslicecap (n + m) c * i.bytes) := by omega
    have h3 : ¬ (9223372036854775807 < (n : Int) + (m : Int)) := by simp only [maxLen] at h63; omega
    simp [Builtin.append_, run_underlying ht, sizeOf, typeInfo, zeroValue, hi, hz, Builtin.lenOf, h1, h2, h3, Question.forced, hold, hnew, newRow, grownCap]
    congr 2
    apply Array.ext'
    simp [List.append_assoc]
  unfold Oper.wp execOp
  simp only [ho, resolve, invoke, builtin, Sem.run_bind, Sem.run_pure, Result.andThen_ok, List.map_toArray, List.map_cons, List.map_nil, hs, hx, hrun]
  refine h _ _ hge hle ?_ ?_
  · simp only [Array.size_append, List.size_toArray, size_zeroCells, hzs, hS.1, hX.1, ← Nat.add_mul]
    congr 1
    omega
  · simp only [Array.toList_append]
    rw [← hlen]
    exact List.take_left

theorem step_append_new {ops : Array Oper} {E : Prop} {o : Oper} {a : Act} {w : World} {K : Act → World → Prop} {Q : Exit → Act → World → Prop} (hgd : o.guard = none) (s x : Operand) (t : TypeId)
    (ho : o.op = .call { callee := .builtin .append, args := #[s, x], argTypes := #[t, t] })
    (e : TypeId) (i : TypeInfo) (z : Value) (size bytes : Nat) (ht : P.underlying t = some (.slice e)) (hi : P.info? e = some i) (hz : i.zero = some z)
    (hsize : i.size = size) (hby : i.bytes = bytes) (hzs : z.cells.size = size)
    (A : Option Addr) (n c : Nat) (xs : List Value) (hs : a.eval s = .slice A n c) (hS : Sl w e size A n xs)
    (A2 : Option Addr) (m c2 : Nat) (e2 : TypeId) (news : List Value) (hx : a.eval x = .slice A2 m c2) (hX : Sl w e2 size A2 m news)
    (hcap : c < n + m) (hnc : n ≤ c) (h63 : n + m ≤ maxLen) (hbytes : (n + m) * bytes ≤ 140737488355328)
    (h : ∀ cap cur, n + m ≤ cap → cap ≤ maxLen → cur.size = cap * size → cur.toList.take ((n + m) * size) = xs ++ news →
      K (a.put o.dst (.slice (some ⟨w.heap.size, 0, none⟩) (n + m) cap)) (w.drew.alloc (.cells cur e))) :
    if Region.wanted o (yielded ops a.tmps) = true then Oper.wp P o a w K Q else E := by
  rw [if_pos (by simp [Region.wanted, hgd])]
  exact wp_append_new s x t ho e i z size bytes ht hi hz hsize hby hzs A n c xs hs hS A2 m c2 e2 news hx hX hcap hnc h63 hbytes h
theorem wpList_append_new {ops : Array Oper} {rest : List Oper} {o : Oper} {a : Act} {w : World} {Q : Exit → Act → World → Prop} (hgd : o.guard = none) (s x : Operand) (t : TypeId)
    (ho : o.op = .call { callee := .builtin .append, args := #[s, x], argTypes := #[t, t] })
    (e : TypeId) (i : TypeInfo) (z : Value) (size bytes : Nat) (ht : P.underlying t = some (.slice e)) (hi : P.info? e = some i) (hz : i.zero = some z)
    (hsize : i.size = size) (hby : i.bytes = bytes) (hzs : z.cells.size = size)
    (A : Option Addr) (n c : Nat) (xs : List Value) (hs : a.eval s = .slice A n c) (hS : Sl w e size A n xs)
    (A2 : Option Addr) (m c2 : Nat) (e2 : TypeId) (news : List Value) (hx : a.eval x = .slice A2 m c2) (hX : Sl w e2 size A2 m news)
    (hcap : c < n + m) (hnc : n ≤ c) (h63 : n + m ≤ maxLen) (hbytes : (n + m) * bytes ≤ 140737488355328)
    (h : ∀ cap cur, n + m ≤ cap → cap ≤ maxLen → cur.size = cap * size → cur.toList.take ((n + m) * size) = xs ++ news →
      wpList P ops Q rest (a.put o.dst (.slice (some ⟨w.heap.size, 0, none⟩) (n + m) cap)) (w.drew.alloc (.cells cur e))) : wpList P ops Q (o :: rest) a w :=
  wpList_plain hgd fun _ hK => wp_append_new s x t ho e i z size bytes ht hi hz hsize hby hzs A n c xs hs hS A2 m c2 e2 news hx hX hcap hnc h63 hbytes fun cap cur h1 h2 h3 h4 => hK _ _ (h cap cur h1 h2 h3 h4)

/-! ### append onto a row of the call's own -/
theorem run_append_owned (w : World) (base : Nat) (t ty e : TypeId) (i : TypeInfo) (z : Value) (size bytes : Nat) (ht : P.underlying t = some (.slice e)) (hi : P.info? e = some i) (hz : i.zero = some z)
    (hsize : i.size = size) (hby : i.bytes = bytes) (hzs : z.cells.size = size) (hsz : 0 < size)
    (v : Value) (n : Nat) (xs : List Value) (hown : w.ownsRow base e size v n xs)
    (A : Option Addr) (m c : Nat) (e2 : TypeId) (news : List Value) (hr : Sl w e2 size A m news) (h1 : ∀ u ∈ news, u.oneCell' = true)
    (h63 : n + m ≤ maxLen) (hbytes : (n + m) * bytes ≤ 140737488355328) (hbase : base ≤ w.heap.size) :
    ∃ v' w', (Builtin.append_ #[t, t] ty #[v, .slice A m c]).run P w = .ok v' w' ∧ w'.ownsRow base e size v' (n + m) (xs ++ news) ∧ w.grownBy w' v.ownBlock ∧
      (v'.ownBlock = v.ownBlock ∨ v'.ownBlock = some w.heap.size) := by
  rcases A with _ | ad
  · have hm : m = 0 := by
      rcases Nat.eq_zero_or_pos m with h0 | h0
      · exact h0
      · obtain ⟨b, o, cur, fr, h, _⟩ := hr.2 h0
        cases h
    subst hm
    rw [hr.of_zero]
    refine ⟨v, w, ?_, by simpa using hown, World.grownBy.refl w _, .inl rfl⟩
    rcases hown.2 with ⟨rfl, rfl⟩ | ⟨g, cap, cur, rfl, _, _, hnc, _⟩
    · simp [Builtin.append_, run_underlying ht, sizeOf, typeInfo, hi, Builtin.lenOf, Builtin.firstCells]
    · simp [Builtin.append_, run_underlying ht, sizeOf, typeInfo, hi, Builtin.lenOf, Builtin.firstCells, hnc, storeCells]
  · have hcells : ∀ j u, news[j]? = some u → w.cell? (ad.add j) = some u := by
      intro j u hu
      rcases Nat.eq_zero_or_pos m with h0 | h0
      · subst h0
        rw [hr.of_zero] at hu
        simp at hu
      · obtain ⟨b, o, hA, _, hc, _⟩ := hr.cells h0
        injection hA with hA
        subst hA
        rw [add_off]
        exact hc j u hu
    obtain ⟨v', w', hrun, h2, h3, _, h5⟩ := run_append_own_at (P := P) w base t ty e i z size bytes ht hi hz hsize hby hzs hsz v n xs hown ad m c news hr.1 hcells h1 h63 hbytes hbase
    exact ⟨v', w', hrun, h2, h3, h5⟩

theorem wp_append_owned {o : Oper} {a : Act} {w : World} {K : Act → World → Prop} {Q : Exit → Act → World → Prop} (s x : Operand) (t : TypeId)
    (ho : o.op = .call { callee := .builtin .append, args := #[s, x], argTypes := #[t, t] })
    (base : Nat) (e : TypeId) (i : TypeInfo) (z : Value) (size bytes : Nat) (ht : P.underlying t = some (.slice e)) (hi : P.info? e = some i) (hz : i.zero = some z)
    (hsize : i.size = size) (hby : i.bytes = bytes) (hzs : z.cells.size = size) (hsz : 0 < size)
    (v : Value) (n : Nat) (xs : List Value) (hs : a.eval s = v) (hown : w.ownsRow base e size v n xs)
    (A : Option Addr) (m c : Nat) (e2 : TypeId) (news : List Value) (hx : a.eval x = .slice A m c) (hr : Sl w e2 size A m news) (h1 : ∀ u ∈ news, u.oneCell' = true)
    (h63 : n + m ≤ maxLen) (hbytes : (n + m) * bytes ≤ 140737488355328) (hbase : base ≤ w.heap.size)
    (h : ∀ v' w', w'.ownsRow base e size v' (n + m) (xs ++ news) → w.grownBy w' v.ownBlock → (v'.ownBlock = v.ownBlock ∨ v'.ownBlock = some w.heap.size) → K (a.put o.dst v') w') : o.wp P a w K Q := by
  obtain ⟨v', w', hrun, h2, h3, h4⟩ := run_append_owned (P := P) w base t o.type e i z size bytes ht hi hz hsize hby hzs hsz v n xs hown A m c e2 news hr h1 h63 hbytes hbase
  unfold Oper.wp execOp
  simp only [ho, resolve, invoke, builtin, Sem.run_bind, Sem.run_pure, Result.andThen_ok, List.map_toArray, List.map_cons, List.map_nil, hs, hx, hrun]
  exact h v' w' h2 h3 h4
theorem wpList_append_owned' {ops : Array Oper} {rest : List Oper} {o : Oper} {a : Act} {w : World} {Q : Exit → Act → World → Prop} (hgd : o.guard = none) (s x : Operand) (t : TypeId)
    (ho : o.op = .call { callee := .builtin .append, args := #[s, x], argTypes := #[t, t] })
    (base : Nat) (e : TypeId) (i : TypeInfo) (z : Value) (size bytes : Nat) (ht : P.underlying t = some (.slice e)) (hi : P.info? e = some i) (hz : i.zero = some z)
    (hsize : i.size = size) (hby : i.bytes = bytes) (hzs : z.cells.size = size) (hsz : 0 < size)
    (v : Value) (n : Nat) (xs : List Value) (hs : a.eval s = v) (hown : w.ownsRow base e size v n xs)
    (A : Option Addr) (m c : Nat) (e2 : TypeId) (news : List Value) (hx : a.eval x = .slice A m c) (hr : Sl w e2 size A m news) (h1 : ∀ u ∈ news, u.oneCell' = true)
    (h63 : n + m ≤ maxLen) (hbytes : (n + m) * bytes ≤ 140737488355328) (hbase : base ≤ w.heap.size)
    (h : ∀ v' w', w'.ownsRow base e size v' (n + m) (xs ++ news) → w.grownBy w' v.ownBlock → (v'.ownBlock = v.ownBlock ∨ v'.ownBlock = some w.heap.size) → wpList P ops Q rest (a.put o.dst v') w') : wpList P ops Q (o :: rest) a w :=
  wpList_plain hgd fun _ hK => wp_append_owned s x t ho base e i z size bytes ht hi hz hsize hby hzs hsz v n xs hs hown A m c e2 news hx hr h1 h63 hbytes hbase fun v' w' h2 h3 h4 => hK _ _ (h v' w' h2 h3 h4)
theorem step_append_owned {ops : Array Oper} {E : Prop} {o : Oper} {a : Act} {w : World} {K : Act → World → Prop} {Q : Exit → Act → World → Prop} (hgd : o.guard = none) (s x : Operand) (t : TypeId)
    (ho : o.op = .call { callee := .builtin .append, args := #[s, x], argTypes := #[t, t] })
    (base : Nat) (e : TypeId) (i : TypeInfo) (z : Value) (size bytes : Nat) (ht : P.underlying t = some (.slice e)) (hi : P.info? e = some i) (hz : i.zero = some z)
    (hsize : i.size = size) (hby : i.bytes = bytes) (hzs : z.cells.size = size) (hsz : 0 < size)
    (v : Value) (n : Nat) (xs : List Value) (hs : a.eval s = v) (hown : w.ownsRow base e size v n xs)
    (A : Option Addr) (m c : Nat) (e2 : TypeId) (news : List Value) (hx : a.eval x = .slice A m c) (hr : Sl w e2 size A m news) (h1 : ∀ u ∈ news, u.oneCell' = true)
    (h63 : n + m ≤ maxLen) (hbytes : (n + m) * bytes ≤ 140737488355328) (hbase : base ≤ w.heap.size)
    (h : ∀ v' w', w'.ownsRow base e size v' (n + m) (xs ++ news) → w.grownBy w' v.ownBlock → (v'.ownBlock = v.ownBlock ∨ v'.ownBlock = some w.heap.size) → K (a.put o.dst v') w') :
    if Region.wanted o (yielded ops a.tmps) = true then Oper.wp P o a w K Q else E := by
  rw [if_pos (by simp [Region.wanted, hgd])]
  exact wp_append_owned s x t ho base e i z size bytes ht hi hz hsize hby hzs hsz v n xs hs hown A m c e2 news hx hr h1 h63 hbytes hbase h

/-- append(nil, make(.., n)...): a new row of zeros -/
theorem run_append_zeros_nil (w : World) (t t2 ty e : TypeId) {kd : IntKind} (i : TypeInfo) (z : Value) (size bytes : Nat) (ht : P.underlying t = some (.slice e)) (ht2 : P.underlying t2 = some (.int kd)) (hi : P.info? e = some i) (hz : i.zero = some z)
    (hsize : i.size = size) (hby : i.bytes = bytes) (hzs : z.cells.size = size) (hsz : 0 < size) (n : Nat) (hn : 0 < n) (h63 : n ≤ maxLen) (hbytes : n * bytes ≤ 140737488355328) :
    ∃ cap cur, n ≤ cap ∧ cap ≤ maxLen ∧ cur.size = cap * size ∧ (Builtin.append_ #[t, t2] ty #[.slice none 0 0, .int .i64 n]).run P w = .ok (.slice (some ⟨w.heap.size, 0, none⟩) n cap) (w.drew.alloc (.cells cur e)) := by
  subst hsize
  subst hby
  have hfit := growslice_fits (need := n) (old := 0) (bytes := i.bytes) (by omega) hbytes
  have hge := grownCap_ge w n 0 e
  have hle := grownCap_le_maxLen w n 0 e h63
  have h0 : IntKind.i64.wrap (n : Int) = n := IntWalk.i64_in _ (by simp only [maxLen] at h63; omega)
  have h1 : ¬ ((n : Int) < 0) := by omega
  have h2 : ¬ (281474976710656 < Builtin.nextslicecap n 0 * i.bytes) := by omega
  have h3 : ¬ (281474976710656 < (n : Int) * (i.bytes : Int)) := by
    rw [← Int.natCast_mul]
    omega
  have h4 : ¬ (9223372036854775807 < (n : Int)) := by simp only [maxLen] at h63; omega
  have h5 : n ≠ 0 := by omega
  have h6 : i.size ≠ 0 := by omega
  refine ⟨grownCap w n 0 e, Builtin.zeroCells z.cells n ++ Builtin.zeroCells z.cells (grownCap w n 0 e - n), hge, hle, ?_, ?_⟩
  · simp only [Array.size_append, size_zeroCells, hzs, ← Nat.add_mul]
    congr 1
    omega
  · simp [Builtin.append_, run_underlying ht, run_underlying ht2, sizeOf, typeInfo, zeroValue, hi, hz, asInt, asIntOf, h0, h1, h2, h3, h4, h5, h6, Question.forced, newRow, grownCap, Builtin.firstCells]
    intro he
    exfalso
    rcases Nat.mul_eq_zero.1 he with h | h <;> omega
theorem wpList_append_zeros_nil {ops : Array Oper} {rest : List Oper} {o : Oper} {a : Act} {w : World} {Q : Exit → Act → World → Prop} (hgd : o.guard = none) (s x : Operand) (t t2 : TypeId)
    (ho : o.op = .call { callee := .builtin .append, args := #[s, x], argTypes := #[t, t2] }) (e : TypeId) {kd : IntKind}
    (i : TypeInfo) (z : Value) (size bytes : Nat) (ht : P.underlying t = some (.slice e)) (ht2 : P.underlying t2 = some (.int kd)) (hi : P.info? e = some i) (hz : i.zero = some z)
    (hsize : i.size = size) (hby : i.bytes = bytes) (hzs : z.cells.size = size) (hsz : 0 < size) (n : Nat) (hs : a.eval s = .slice none 0 0) (hx : a.eval x = .int .i64 n)
    (hn : 0 < n) (h63 : n ≤ maxLen) (hbytes : n * bytes ≤ 140737488355328)
    (h : ∀ cap cur, n ≤ cap → cap ≤ maxLen → cur.size = cap * size → wpList P ops Q rest (a.put o.dst (.slice (some ⟨w.heap.size, 0, none⟩) n cap)) (w.drew.alloc (.cells cur e))) :
    wpList P ops Q (o :: rest) a w :=
  wpList_plain hgd fun _ hK => by
    obtain ⟨cap, cur, g1, g2, g3, hrun⟩ := run_append_zeros_nil (P := P) w t t2 o.type e i z size bytes ht ht2 hi hz hsize hby hzs hsz n hn h63 hbytes
    unfold Oper.wp execOp
    simp only [ho, resolve, invoke, builtin, Sem.run_bind, Sem.run_pure, Result.andThen_ok, List.map_toArray, List.map_cons, List.map_nil, hs, hx, hrun]
    exact hK _ _ (h cap cur g1 g2 g3)
end
end Go.Proofs.Ytegogggemmcgdaa
