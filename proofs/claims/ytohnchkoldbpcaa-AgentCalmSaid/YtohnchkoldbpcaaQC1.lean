import Derived.WalkKit
import Derived.WalkSpells
import Derived.Deep.QuietTactic
import Derived.BigQuiet
import Derived.Deep.RegionHeld3
import Derived.Deep.AppendLies
import Derived.Deep.RegionLawGrows
import Derived.Maps.AppendAt
import Derived.Lib.Hide
import Derived.Test.YtohnchkoldbpcaaProg
import Derived.Deep.DeepCutAuto
import Derived.Deep.LoopGhost
import Derived.Lib.AppendStr
import Derived.Deep.DeepAppendWide
import Derived.Laws.BytesArg
import Derived.Laws.BitsAllLaws
set_option linter.unusedVariables false
set_option linter.unusedSimpArgs false
/- Frames, blocks, slices that read as lists, append: words shared by all walks of this seat. -/
namespace Go.Proofs.Ytohnchkoldbpcaa
open Go Go.RowKit

/-! ### Frames: only blocks of S, and new ones, may have changed -/
structure Fr (S : Nat → Prop) (w w' : World) : Prop where
  os : w'.os = w.os
  tape : w'.tape = w.tape
  output : w'.output = w.output
  size : w.heap.size ≤ w'.heap.size
  block : ∀ k, k < w.heap.size → ¬ S k → w'.heap[k]? = w.heap[k]?

abbrev No : Nat → Prop := fun _ => False

section
variable {S S' : Nat → Prop} {a b c w w' : World}
theorem Fr.refl (S : Nat → Prop) (w : World) : Fr S w w := ⟨rfl, rfl, rfl, Nat.le_refl _, fun _ _ _ => rfl⟩
theorem Fr.trans (h : Fr S a b) (k : Fr S b c) : Fr S a c :=
  ⟨k.os.trans h.os, k.tape.trans h.tape, k.output.trans h.output, Nat.le_trans h.size k.size,
   fun i hi hn => (k.block i (Nat.lt_of_lt_of_le hi h.size) hn).trans (h.block i hi hn)⟩
theorem Fr.mono (h : Fr S a b) (hs : ∀ k, k < a.heap.size → S k → S' k) : Fr S' a b :=
  ⟨h.os, h.tape, h.output, h.size, fun i hi hn => h.block i hi (fun hS => hn (hs i hi hS))⟩
/-- a step that touches S', which lies in S or is new -/
theorem Fr.step (h : Fr S a b) (k : Fr S' b c) (hs : ∀ i, S' i → S i ∨ a.heap.size ≤ i) : Fr S a c :=
  ⟨k.os.trans h.os, k.tape.trans h.tape, k.output.trans h.output, Nat.le_trans h.size k.size,
   fun i hi hn => (k.block i (Nat.lt_of_lt_of_le hi h.size) (fun hS => by
     rcases hs i hS with h1 | h1
     · exact hn h1
     · omega)).trans (h.block i hi hn)⟩
theorem Fr.any (h : Fr No a b) (S : Nat → Prop) : Fr S a b := h.mono fun _ _ hf => hf.elim
theorem Fr.drew (h : Fr S a w) : Fr S a w.drew := ⟨h.os, h.tape, h.output, h.size, h.block⟩
theorem Fr.drewL (h : Fr S a w) : Fr S a.drew w := ⟨h.os, h.tape, h.output, h.size, h.block⟩
theorem Fr.drewN (h : Fr S a w) (n : Nat) : Fr S a (w.drewN n) := ⟨h.os, h.tape, h.output, h.size, h.block⟩
theorem Fr.alloc (h : Fr S a w) (o : Obj) : Fr S a (w.alloc o) :=
  ⟨h.os, h.tape, h.output, Nat.le_trans h.size (by simp), fun i hi hn => (Below.heap_alloc w o i (Nat.lt_of_lt_of_le hi h.size)).trans (h.block i hi hn)⟩
theorem Fr.setCell (h : Fr S a w) {p : Addr} (hp : S p.block ∨ a.heap.size ≤ p.block) (u : Value) : Fr S a (w.setCell p u) :=
  ⟨h.os, h.tape, h.output, by simpa [World.setCell] using h.size, fun i hi hn => (Below.heap_setCell w p u i (by
    rintro rfl
    rcases hp with h1 | h1
    · exact hn h1
    · omega)).trans (h.block i hi hn)⟩
theorem Fr.grown {row : Option Nat} (h : Fr S a w) (hg : w.grownBy w' row) (hr : ∀ k, row = some k → S k ∨ a.heap.size ≤ k) : Fr S a w' :=
  ⟨hg.os.trans h.os, hg.tape.trans h.tape, hg.output.trans h.output, Nat.le_trans h.size hg.size, fun i hi hn =>
    (hg.block i (Nat.lt_of_lt_of_le hi h.size) (fun e => by
      rcases hr i e.symm with h1 | h1
      · exact hn h1
      · omega)).trans (h.block i hi hn)⟩
theorem Fr.of_grown {row : Option Nat} (hg : w.grownBy w' row) : Fr (fun k => some k = row) w w' :=
  ⟨hg.os, hg.tape, hg.output, hg.size, fun i hi hn => hg.block i hi hn⟩
theorem Fr.below (h : Fr S a w) {B : Nat} (hB : B ≤ a.heap.size) (hS : ∀ k, S k → B ≤ k) : Below B a w :=
  ⟨h.os, h.tape, h.output, h.size, fun k hk => h.block k (by omega) (fun hs => by have := hS k hs; omega)⟩
theorem Fr.of_below (h : Below a.heap.size a w) : Fr S a w := ⟨h.os, h.tape, h.output, h.size, fun k hk _ => h.block k hk⟩
theorem Fr.cell (h : Fr S a w) {p : Addr} (hp : p.block < a.heap.size) (hn : ¬ S p.block) : w.cell? p = a.cell? p := World.cell?_of_block (h.block p.block hp hn)
theorem Fr.frozen (h : Fr S a w) {p : Addr} (hp : p.block < a.heap.size) (hn : ¬ S p.block) : w.frozen? p = a.frozen? p := World.frozen?_of_block (h.block p.block hp hn)
theorem Fr.cells (h : Fr No a w) : ∀ b o, b < a.heap.size → w.cell? ⟨b, o, none⟩ = a.cell? ⟨b, o, none⟩ := fun b o hb => h.cell (p := ⟨b, o, none⟩) hb (fun hf => hf)
theorem Fr.frozens (h : Fr No a w) : ∀ b o, b < a.heap.size → w.frozen? ⟨b, o, none⟩ = a.frozen? ⟨b, o, none⟩ := fun b o hb => h.frozen (p := ⟨b, o, none⟩) hb (fun hf => hf)
end

/-- a map's (or another object's) block is another one now -/
def setObjAt (w : World) (r : Nat) (o : Obj) : World := { w with heap := w.heap.setIfInBounds r o }
theorem setObjAt_same (w : World) (r : Nat) (o : Obj) (h : r < w.heap.size) : (setObjAt w r o).heap[r]? = some o := by simp [setObjAt, h]
theorem setObjAt_other (w : World) (r k : Nat) (o : Obj) (h : r ≠ k) : (setObjAt w r o).heap[k]? = w.heap[k]? := by simp [setObjAt, Array.getElem?_setIfInBounds_ne h]
theorem Fr.setObj {S : Nat → Prop} {a w : World} (h : Fr S a w) {r : Nat} (hp : S r ∨ a.heap.size ≤ r) (o : Obj) : Fr S a (setObjAt w r o) :=
  ⟨h.os, h.tape, h.output, by simpa [setObjAt] using h.size, fun i hi hn => (setObjAt_other w r i o (by
    rintro rfl
    rcases hp with h1 | h1
    · exact hn h1
    · omega)).trans (h.block i hi hn)⟩

/-! ### Blocks known whole -/
def Blk (w : World) (g : Nat) (t : TypeId) (cs : List Value) : Prop := w.heap[g]? = some (.cells cs.toArray t (0, 0))
section
variable {w w' : World} {g : Nat} {t : TypeId} {cs : List Value}
theorem lt_of_heap {o : Obj} (h : w.heap[g]? = some o) : g < w.heap.size := (Array.getElem?_eq_some_iff.1 h).1
theorem Blk.lt (h : Blk w g t cs) : g < w.heap.size := lt_of_heap h
theorem Blk.cell (h : Blk w g t cs) (i : Nat) : w.cell? ⟨g, i, none⟩ = cs[i]? := by
  have := cell_of_row w g i cs.toArray t (0, 0) h
  simpa using this
theorem Blk.frozen (h : Blk w g t cs) (i : Nat) : w.frozen? ⟨g, i, none⟩ = false := by
  unfold Blk at h
  simp [World.frozen?, h]
theorem Blk.frozens (h : Blk w g t cs) : ∀ i, w.frozen? ⟨g, i, none⟩ = false := h.frozen
theorem Blk.new (w : World) (t : TypeId) (cs : List Value) : Blk (w.alloc (.cells cs.toArray t)) w.heap.size t cs := heap_alloc_new w _
theorem Blk.drew (h : Blk w g t cs) : Blk w.drew g t cs := h
theorem Blk.drewN (h : Blk w g t cs) (n : Nat) : Blk (w.drewN n) g t cs := h
theorem Blk.alloc (h : Blk w g t cs) (o : Obj) : Blk (w.alloc o) g t cs := (Below.heap_alloc w o g h.lt).trans h
theorem Blk.set_ (h : Blk w g t cs) (i : Nat) (u : Value) : Blk (w.setCell ⟨g, i, none⟩ u) g t (cs.set i u) := by
  unfold Blk at h ⊢
  simp [World.setCell, Array.getElem?_modify, h]
theorem Blk.far (h : Blk w g t cs) {p : Addr} (hp : g ≠ p.block) (u : Value) : Blk (w.setCell p u) g t cs := (Below.heap_setCell w p u g hp).trans h
theorem Blk.obj (h : Blk w g t cs) {r : Nat} (hp : r ≠ g) (o : Obj) : Blk (setObjAt w r o) g t cs := (setObjAt_other w r g o hp).trans h
theorem Blk.fr {S : Nat → Prop} (h : Blk w g t cs) (hf : Fr S w w') (hS : ¬ S g) : Blk w' g t cs := (hf.block g h.lt hS).trans h
theorem Blk.ne_ {g' : Nat} {t' : TypeId} {cs' : List Value} (h : Blk w g t cs) (h' : Blk w g' t' cs') (hne : t ≠ t') : g ≠ g' := by
  rintro rfl
  unfold Blk at h h'
  rw [h] at h'
  injection h' with h'
  injection h' with _ ht
  exact hne ht
theorem Blk.ne_map {r : Nat} {es : Array MapEntry} {ck : Nat} (h : Blk w g t cs) (h' : w.heap[r]? = some (.map es ck)) : g ≠ r := by
  rintro rfl
  unfold Blk at h
  rw [h] at h'
  cases h'
end

/-- whatever lay in W reads as it did -/
abbrev Sup (W w : World) : Prop := ∀ b o, b < W.heap.size → w.cell? ⟨b, o, none⟩ = W.cell? ⟨b, o, none⟩
theorem Sup.refl (W : World) : Sup W W := fun _ _ _ => rfl
theorem Sup.of_fr {W w : World} (h : Fr No W w) : Sup W w := h.cells

/-! ### Slices that read as lists of cells: n elements of sz cells each, in a block of element type t -/
def Sl (w : World) (t : TypeId) (sz : Nat) (A : Option Addr) (n : Nat) (xs : List Value) : Prop :=
  xs.length = n * sz ∧ (0 < n → ∃ b o cur fr, A = some ⟨b, o, none⟩ ∧ w.heap[b]? = some (Obj.cells cur t fr) ∧ ∀ j u, xs[j]? = some u → cur[o + j]? = some u)

theorem add_off (b o n : Nat) : (⟨b, o, none⟩ : Addr).add n = ⟨b, o + n, none⟩ := by
  unfold Addr.add
  split <;> simp_all

section
variable {w w' : World} {t : TypeId} {sz n : Nat} {A : Option Addr} {xs : List Value}
theorem Sl.nil (w : World) (t : TypeId) (sz : Nat) (A : Option Addr) : Sl w t sz A 0 [] := ⟨by simp, fun h => absurd h (by omega)⟩
theorem Sl.of_zero (h : Sl w t sz A 0 xs) : xs = [] := List.eq_nil_of_length_eq_zero (by simpa using h.1)
theorem Sl.cells (h : Sl w t sz A n xs) (hn : 0 < n) : ∃ b o, A = some ⟨b, o, none⟩ ∧ b < w.heap.size ∧ (∀ j u, xs[j]? = some u → w.cell? ⟨b, o + j, none⟩ = some u) ∧ ∃ cur fr, w.heap[b]? = some (Obj.cells cur t fr) := by
  obtain ⟨b, o, cur, fr, rfl, hb, hx⟩ := h.2 hn
  refine ⟨b, o, rfl, lt_of_heap hb, fun j u hu => ?_, cur, fr, hb⟩
  rw [cell_of_row w b (o + j) cur t fr hb]
  exact hx j u hu
theorem Sl.kept (h : Sl w t sz A n xs) (hk : ∀ (b : Nat) cur fr, w.heap[b]? = some (Obj.cells cur t fr) → w'.heap[b]? = w.heap[b]?) : Sl w' t sz A n xs :=
  ⟨h.1, fun hn => by
    obtain ⟨b, o, cur, fr, e, hb, hx⟩ := h.2 hn
    exact ⟨b, o, cur, fr, e, (hk b cur fr hb).trans hb, hx⟩⟩
theorem Sl.drew (h : Sl w t sz A n xs) : Sl w.drew t sz A n xs := h
theorem Sl.drewN (h : Sl w t sz A n xs) (k : Nat) : Sl (w.drewN k) t sz A n xs := h
theorem Sl.alloc (h : Sl w t sz A n xs) (o : Obj) : Sl (w.alloc o) t sz A n xs := h.kept fun b _ _ hb => Below.heap_alloc w o b (lt_of_heap hb)
theorem Sl.obj (h : Sl w t sz A n xs) {r : Nat} {o' : Obj} (hr : w.heap[r]? = some o') (hne : ∀ cur fr, o' ≠ Obj.cells cur t fr) (o : Obj) : Sl (setObjAt w r o) t sz A n xs :=
  h.kept fun b cur fr hb => setObjAt_other w r b o (by rintro rfl; rw [hr] at hb; injection hb with hb; exact hne _ _ hb)
theorem Sl.far {g : Nat} {t' : TypeId} {cs : List Value} (h : Sl w t sz A n xs) (hg : Blk w g t' cs) (hne : t ≠ t') {p : Addr} (hp : p.block = g) (u : Value) : Sl (w.setCell p u) t sz A n xs :=
  h.kept fun b cur fr hb => Below.heap_setCell w p u b (by
    rintro rfl
    unfold Blk at hg
    rw [← hp, hb] at hg
    injection hg with hg
    injection hg with _ ht
    exact hne ht)
theorem Sl.fr {S : Nat → Prop} (h : Sl w t sz A n xs) (hf : Fr S w w') (hS : ∀ (b : Nat) cur fr, w.heap[b]? = some (Obj.cells cur t fr) → ¬ S b) : Sl w' t sz A n xs :=
  h.kept fun b cur fr hb => hf.block b (lt_of_heap hb) (hS b cur fr hb)
theorem Sl.fr0 (h : Sl w t sz A n xs) (hf : Fr No w w') : Sl w' t sz A n xs := h.fr hf fun _ _ _ _ hF => hF
/-- a cut -/
theorem Sl.cut (h : Sl w t sz A n xs) {l k c m : Nat} (hl : l ≤ k) (hk : k ≤ n) (hm : k ≤ m) :
    Sl w t sz (if m = l then A else A.map (·.add (l * sz))) (k - l) ((xs.drop (l * sz)).take ((k - l) * sz)) := by
  refine ⟨?_, fun hn => ?_⟩
  · rw [List.length_take, List.length_drop, h.1]
    have h1 : (k - l) * sz = k * sz - l * sz := Nat.sub_mul ..
    have h2 : k * sz ≤ n * sz := Nat.mul_le_mul_right _ hk
    omega
  · obtain ⟨b, o, cur, fr, rfl, hb, hx⟩ := h.2 (by omega)
    rw [if_neg (by omega)]
    refine ⟨b, o + l * sz, cur, fr, by simp [add_off], hb, fun j u hu => ?_⟩
    rw [List.getElem?_take] at hu
    split at hu
    · rw [List.getElem?_drop] at hu
      rw [Nat.add_assoc]
      exact hx _ u hu
    · cases hu
theorem Sl.of_own {base : Nat} {c : Nat} (h : w.ownsRow base t sz (.slice A n c) n xs) : Sl w t sz A n xs := by
  refine ⟨h.1, fun hn => ?_⟩
  rcases h.2 with ⟨_, h0⟩ | ⟨g, cap, cur, hv, _, hg, _, _, _, htake⟩
  · omega
  · injection hv with hA
    refine ⟨g, 0, cur, (0, 0), hA, hg, fun j u hu => ?_⟩
    rw [← htake, List.getElem?_take] at hu
    split at hu
    · simpa using hu
    · cases hu
/-- a new row -/
theorem Sl.of_new (w : World) (t : TypeId) (sz n : Nat) (cur : Array Value) (xs : List Value) (hl : xs.length = n * sz) (hx : cur.toList.take (n * sz) = xs) :
    Sl (w.alloc (.cells cur t)) t sz (some ⟨w.heap.size, 0, none⟩) n xs := by
  refine ⟨hl, fun _ => ⟨w.heap.size, 0, cur, (0, 0), rfl, heap_alloc_new w _, fun j u hu => ?_⟩⟩
  rw [← hx, List.getElem?_take] at hu
  split at hu
  · simpa using hu
  · cases hu
end

/-! ### append, where a new row is made -/
section
variable {P : Program}
theorem wp_append_new {o : Oper} {a : Act} {w : World} {K : Act → World → Prop} {Q : Exit → Act → World → Prop} (s x : Operand) (t : TypeId)
    (ho : o.op = .call { callee := .builtin .append, args := #[s, x], argTypes := #[t, t] })
    (e : TypeId) (i : TypeInfo) (z : Value) (size bytes : Nat) (ht : P.underlying t = some (.slice e)) (hi : P.info? e = some i) (hz : i.zero = some z)
    (hsize : i.size = size) (hby : i.bytes = bytes) (hzs : z.cells.size = size)
    (A : Option Addr) (n c : Nat) (xs : List Value) (hs : a.eval s = .slice A n c) (hS : Sl w e size A n xs)
    (A2 : Option Addr) (m c2 : Nat) (e2 : TypeId) (news : List Value) (hx : a.eval x = .slice A2 m c2) (hX : Sl w e2 size A2 m news)
    (hcap : c < n + m) (hnc : n ≤ c) (h63 : n + m ≤ maxLen) (hbytes : (n + m) * bytes ≤ 140737488355328)
    (h : ∀ cap cur, n + m ≤ cap → cap ≤ maxLen → cur.size = cap * size → cur.toList.take ((n + m) * size) = xs ++ news →
      K (a.put o.dst (.slice (some ⟨w.heap.size, 0, none⟩) (n + m) cap)) (w.drew.alloc (.cells cur e))) : o.wp P a w K Q := by
  subst hsize
  subst hby
  have hm : 0 < m := by omega
  obtain ⟨b2, o2, rfl, _, hc2, _⟩ := hX.cells hm
  have hfit := growslice_fits (need := n + m) (old := c) (bytes := i.bytes) (by omega) hbytes
  have hge := grownCap_ge w (n + m) c e
  have hle := grownCap_le_maxLen w (n + m) c e h63
  have hold : (Builtin.firstCells i.size n (.slice A n c)).run P w.drew = .ok xs.toArray w.drew := by
    rcases A with _ | ad
    · have h0 : n = 0 := by
        rcases Nat.eq_zero_or_pos n with h0 | h0
        · exact h0
        · obtain ⟨b, o', hA, _⟩ := hS.cells h0
          cases hA
      subst h0
      rw [hS.of_zero]
      simp [Builtin.firstCells]
    · refine run_firstCells_some (P := P) w.drew i.size n ad n c xs hS.1 fun j v hv => ?_
      rcases Nat.eq_zero_or_pos n with h0 | h0
      · subst h0
        rw [hS.of_zero] at hv
        simp at hv
      · obtain ⟨b, o', hA, _, hc, _⟩ := hS.cells h0
        injection hA with hA
        subst hA
        rw [add_off]
        exact hc j v hv
  have hnew : (Builtin.firstCells i.size m (.slice (some ⟨b2, o2, none⟩) m c2)).run P w.drew = .ok news.toArray w.drew :=
    run_firstCells_some (P := P) w.drew i.size m ⟨b2, o2, none⟩ m c2 news hX.1 fun j v hv => by rw [add_off]; exact hc2 j v hv
  have hlen : (xs ++ news).length = (n + m) * i.size := by rw [List.length_append, hS.1, hX.1, Nat.add_mul]
  have hrun : (Builtin.append_ #[t, t] o.type #[.slice A n c, .slice (some ⟨b2, o2, none⟩) m c2]).run P w =
      .ok (.slice (some ⟨w.heap.size, 0, none⟩) (n + m) (grownCap w (n + m) c e))
        (w.drew.alloc (.cells (xs.toArray ++ news.toArray ++ Builtin.zeroCells z.cells (grownCap w (n + m) c e - (n + m))) e)) := by
    have h1 : ¬ (n + m ≤ c) := by omega
    have h2 : ¬ (281474976710656 < Builtin.nextslicecap (n + m) c * i.bytes) := by omega
    have h3 : ¬ (9223372036854775807 < (n : Int) + (m : Int)) := by simp only [maxLen] at h63; omega
    simp [Builtin.append_, run_underlying ht, sizeOf, typeInfo, zeroValue, hi, hz, Builtin.lenOf, h1, h2, h3, Question.forced, hold, hnew, newRow, grownCap]
    congr 2
    apply Array.ext'
    simp [List.append_assoc]
  unfold Oper.wp execOp
  simp only [ho, resolve, invoke, builtin, Sem.run_bind, Sem.run_pure, Result.andThen_ok, List.map_toArray, List.map_cons, List.map_nil, hs, hx, hrun]
  refine h _ _ hge hle ?_ ?_
  · simp only [Array.size_append, List.size_toArray, size_zeroCells, hzs, hS.1, hX.1, ← Nat.add_mul]
    congr 1
    omega
  · simp only [Array.toList_append]
    rw [← hlen]
    exact List.take_left

theorem step_append_new {ops : Array Oper} {E : Prop} {o : Oper} {a : Act} {w : World} {K : Act → World → Prop} {Q : Exit → Act → World → Prop} (hgd : o.guard = none) (s x : Operand) (t : TypeId)
    (ho : o.op = .call { callee := .builtin .append, args := #[s, x], argTypes := #[t, t] })
    (e : TypeId) (i : TypeInfo) (z : Value) (size bytes : Nat) (ht : P.underlying t = some (.slice e)) (hi : P.info? e = some i) (hz : i.zero = some z)
    (hsize : i.size = size) (hby : i.bytes = bytes) (hzs : z.cells.size = size)
    (A : Option Addr) (n c : Nat) (xs : List Value) (hs : a.eval s = .slice A n c) (hS : Sl w e size A n xs)
    (A2 : Option Addr) (m c2 : Nat) (e2 : TypeId) (news : List Value) (hx : a.eval x = .slice A2 m c2) (hX : Sl w e2 size A2 m news)
    (hcap : c < n + m) (hnc : n ≤ c) (h63 : n + m ≤ maxLen) (hbytes : (n + m) * bytes ≤ 140737488355328)
    (h : ∀ cap cur, n + m ≤ cap → cap ≤ maxLen → cur.size = cap * size → cur.toList.take ((n + m) * size) = xs ++ news →
      K (a.put o.dst (.slice (some ⟨w.heap.size, 0, none⟩) (n + m) cap)) (w.drew.alloc (.cells cur e))) :
    if Region.wanted o (yielded ops a.tmps) = true then Oper.wp P o a w K Q else E := by
  rw [if_pos (by simp [Region.wanted, hgd])]
  exact wp_append_new s x t ho e i z size bytes ht hi hz hsize hby hzs A n c xs hs hS A2 m c2 e2 news hx hX hcap hnc h63 hbytes h
theorem wpList_append_new {ops : Array Oper} {rest : List Oper} {o : Oper} {a : Act} {w : World} {Q : Exit → Act → World → Prop} (hgd : o.guard = none) (s x : Operand) (t : TypeId)
    (ho : o.op = .call { callee := .builtin .append, args := #[s, x], argTypes := #[t, t] })
    (e : TypeId) (i : TypeInfo) (z : Value) (size bytes : Nat) (ht : P.underlying t = some (.slice e)) (hi : P.info? e = some i) (hz : i.zero = some z)
    (hsize : i.size = size) (hby : i.bytes = bytes) (hzs : z.cells.size = size)
    (A : Option Addr) (n c : Nat) (xs : List Value) (hs : a.eval s = .slice A n c) (hS : Sl w e size A n xs)
    (A2 : Option Addr) (m c2 : Nat) (e2 : TypeId) (news : List Value) (hx : a.eval x = .slice A2 m c2) (hX : Sl w e2 size A2 m news)
    (hcap : c < n + m) (hnc : n ≤ c) (h63 : n + m ≤ maxLen) (hbytes : (n + m) * bytes ≤ 140737488355328)
    (h : ∀ cap cur, n + m ≤ cap → cap ≤ maxLen → cur.size = cap * size → cur.toList.take ((n + m) * size) = xs ++ news →
      wpList P ops Q rest (a.put o.dst (.slice (some ⟨w.heap.size, 0, none⟩) (n + m) cap)) (w.drew.alloc (.cells cur e))) : wpList P ops Q (o :: rest) a w :=
  wpList_plain hgd fun _ hK => wp_append_new s x t ho e i z size bytes ht hi hz hsize hby hzs A n c xs hs hS A2 m c2 e2 news hx hX hcap hnc h63 hbytes fun cap cur h1 h2 h3 h4 => hK _ _ (h cap cur h1 h2 h3 h4)

/-! ### append onto a row of the call's own -/
theorem run_append_owned (w : World) (base : Nat) (t ty e : TypeId) (i : TypeInfo) (z : Value) (size bytes : Nat) (ht : P.underlying t = some (.slice e)) (hi : P.info? e = some i) (hz : i.zero = some z)
    (hsize : i.size = size) (hby : i.bytes = bytes) (hzs : z.cells.size = size) (hsz : 0 < size)
    (v : Value) (n : Nat) (xs : List Value) (hown : w.ownsRow base e size v n xs)
    (A : Option Addr) (m c : Nat) (e2 : TypeId) (news : List Value) (hr : Sl w e2 size A m news) (h1 : ∀ u ∈ news, u.oneCell' = true)
    (h63 : n + m ≤ maxLen) (hbytes : (n + m) * bytes ≤ 140737488355328) (hbase : base ≤ w.heap.size) :
    ∃ v' w', (Builtin.append_ #[t, t] ty #[v, .slice A m c]).run P w = .ok v' w' ∧ w'.ownsRow base e size v' (n + m) (xs ++ news) ∧ w.grownBy w' v.ownBlock ∧
      (v'.ownBlock = v.ownBlock ∨ v'.ownBlock = some w.heap.size) := by
  rcases A with _ | ad
  · have hm : m = 0 := by
      rcases Nat.eq_zero_or_pos m with h0 | h0
      · exact h0
      · obtain ⟨b, o, cur, fr, h, _⟩ := hr.2 h0
        cases h
    subst hm
    rw [hr.of_zero]
    refine ⟨v, w, ?_, by simpa using hown, World.grownBy.refl w _, .inl rfl⟩
    rcases hown.2 with ⟨rfl, rfl⟩ | ⟨g, cap, cur, rfl, _, _, hnc, _⟩
    · simp [Builtin.append_, run_underlying ht, sizeOf, typeInfo, hi, Builtin.lenOf, Builtin.firstCells]
    · simp [Builtin.append_, run_underlying ht, sizeOf, typeInfo, hi, Builtin.lenOf, Builtin.firstCells, hnc, storeCells]
  · have hcells : ∀ j u, news[j]? = some u → w.cell? (ad.add j) = some u := by
      intro j u hu
      rcases Nat.eq_zero_or_pos m with h0 | h0
      · subst h0
        rw [hr.of_zero] at hu
        simp at hu
      · obtain ⟨b, o, hA, _, hc, _⟩ := hr.cells h0
        injection hA with hA
        subst hA
        rw [add_off]
        exact hc j u hu
    obtain ⟨v', w', hrun, h2, h3, _, h5⟩ := run_append_own_at (P := P) w base t ty e i z size bytes ht hi hz hsize hby hzs hsz v n xs hown ad m c news hr.1 hcells h1 h63 hbytes hbase
    exact ⟨v', w', hrun, h2, h3, h5⟩

theorem wp_append_owned {o : Oper} {a : Act} {w : World} {K : Act → World → Prop} {Q : Exit → Act → World → Prop} (s x : Operand) (t : TypeId)
    (ho : o.op = .call { callee := .builtin .append, args := #[s, x], argTypes := #[t, t] })
    (base : Nat) (e : TypeId) (i : TypeInfo) (z : Value) (size bytes : Nat) (ht : P.underlying t = some (.slice e)) (hi : P.info? e = some i) (hz : i.zero = some z)
    (hsize : i.size = size) (hby : i.bytes = bytes) (hzs : z.cells.size = size) (hsz : 0 < size)
    (v : Value) (n : Nat) (xs : List Value) (hs : a.eval s = v) (hown : w.ownsRow base e size v n xs)
    (A : Option Addr) (m c : Nat) (e2 : TypeId) (news : List Value) (hx : a.eval x = .slice A m c) (hr : Sl w e2 size A m news) (h1 : ∀ u ∈ news, u.oneCell' = true)
    (h63 : n + m ≤ maxLen) (hbytes : (n + m) * bytes ≤ 140737488355328) (hbase : base ≤ w.heap.size)
    (h : ∀ v' w', w'.ownsRow base e size v' (n + m) (xs ++ news) → w.grownBy w' v.ownBlock → (v'.ownBlock = v.ownBlock ∨ v'.ownBlock = some w.heap.size) → K (a.put o.dst v') w') : o.wp P a w K Q := by
  obtain ⟨v', w', hrun, h2, h3, h4⟩ := run_append_owned (P := P) w base t o.type e i z size bytes ht hi hz hsize hby hzs hsz v n xs hown A m c e2 news hr h1 h63 hbytes hbase
  unfold Oper.wp execOp
  simp only [ho, resolve, invoke, builtin, Sem.run_bind, Sem.run_pure, Result.andThen_ok, List.map_toArray, List.map_cons, List.map_nil, hs, hx, hrun]
  exact h v' w' h2 h3 h4
theorem wpList_append_owned' {ops : Array Oper} {rest : List Oper} {o : Oper} {a : Act} {w : World} {Q : Exit → Act → World → Prop} (hgd : o.guard = none) (s x : Operand) (t : TypeId)
    (ho : o.op = .call { callee := .builtin .append, args := #[s, x], argTypes := #[t, t] })
    (base : Nat) (e : TypeId) (i : TypeInfo) (z : Value) (size bytes : Nat) (ht : P.underlying t = some (.slice e)) (hi : P.info? e = some i) (hz : i.zero = some z)
    (hsize : i.size = size) (hby : i.bytes = bytes) (hzs : z.cells.size = size) (hsz : 0 < size)
    (v : Value) (n : Nat) (xs : List Value) (hs : a.eval s = v) (hown : w.ownsRow base e size v n xs)
    (A : Option Addr) (m c : Nat) (e2 : TypeId) (news : List Value) (hx : a.eval x = .slice A m c) (hr : Sl w e2 size A m news) (h1 : ∀ u ∈ news, u.oneCell' = true)
    (h63 : n + m ≤ maxLen) (hbytes : (n + m) * bytes ≤ 140737488355328) (hbase : base ≤ w.heap.size)
    (h : ∀ v' w', w'.ownsRow base e size v' (n + m) (xs ++ news) → w.grownBy w' v.ownBlock → (v'.ownBlock = v.ownBlock ∨ v'.ownBlock = some w.heap.size) → wpList P ops Q rest (a.put o.dst v') w') : wpList P ops Q (o :: rest) a w :=
  wpList_plain hgd fun _ hK => wp_append_owned s x t ho base e i z size bytes ht hi hz hsize hby hzs hsz v n xs hs hown A m c e2 news hx hr h1 h63 hbytes hbase fun v' w' h2 h3 h4 => hK _ _ (h v' w' h2 h3 h4)
theorem step_append_owned {ops : Array Oper} {E : Prop} {o : Oper} {a : Act} {w : World} {K : Act → World → Prop} {Q : Exit → Act → World → Prop} (hgd : o.guard = none) (s x : Operand) (t : TypeId)
    (ho : o.op = .call { callee := .builtin .append, args := #[s, x], argTypes := #[t, t] })
    (base : Nat) (e : TypeId) (i : TypeInfo) (z : Value) (size bytes : Nat) (ht : P.underlying t = some (.slice e)) (hi : P.info? e = some i) (hz : i.zero = some z)
    (hsize : i.size = size) (hby : i.bytes = bytes) (hzs : z.cells.size = size) (hsz : 0 < size)
    (v : Value) (n : Nat) (xs : List Value) (hs : a.eval s = v) (hown : w.ownsRow base e size v n xs)
    (A : Option Addr) (m c : Nat) (e2 : TypeId) (news : List Value) (hx : a.eval x = .slice A m c) (hr : Sl w e2 size A m news) (h1 : ∀ u ∈ news, u.oneCell' = true)
    (h63 : n + m ≤ maxLen) (hbytes : (n + m) * bytes ≤ 140737488355328) (hbase : base ≤ w.heap.size)
    (h : ∀ v' w', w'.ownsRow base e size v' (n + m) (xs ++ news) → w.grownBy w' v.ownBlock → (v'.ownBlock = v.ownBlock ∨ v'.ownBlock = some w.heap.size) → K (a.put o.dst v') w') :
    if Region.wanted o (yielded ops a.tmps) = true then Oper.wp P o a w K Q else E := by
  rw [if_pos (by simp [Region.wanted, hgd])]
  exact wp_append_owned s x t ho base e i z size bytes ht hi hz hsize hby hzs hsz v n xs hs hown A m c e2 news hx hr h1 h63 hbytes hbase h

/-- append(nil, make(.., n)...): a new row of zeros -/
theorem run_append_zeros_nil (w : World) (t t2 ty e : TypeId) {kd : IntKind} (i : TypeInfo) (z : Value) (size bytes : Nat) (ht : P.underlying t = some (.slice e)) (ht2 : P.underlying t2 = some (.int kd)) (hi : P.info? e = some i) (hz : i.zero = some z)
    (hsize : i.size = size) (hby : i.bytes = bytes) (hzs : z.cells.size = size) (hsz : 0 < size) (n : Nat) (hn : 0 < n) (h63 : n ≤ maxLen) (hbytes : n * bytes ≤ 140737488355328) :
    ∃ cap cur, n ≤ cap ∧ cap ≤ maxLen ∧ cur.size = cap * size ∧ (Builtin.append_ #[t, t2] ty #[.slice none 0 0, .int .i64 n]).run P w = .ok (.slice (some ⟨w.heap.size, 0, none⟩) n cap) (w.drew.alloc (.cells cur e)) := by
  subst hsize
  subst hby
  have hfit := growslice_fits (need := n) (old := 0) (bytes := i.bytes) (by omega) hbytes
  have hge := grownCap_ge w n 0 e
  have hle := grownCap_le_maxLen w n 0 e h63
  have h0 : IntKind.i64.wrap (n : Int) = n := IntWalk.i64_in _ (by simp only [maxLen] at h63; omega)
  have h1 : ¬ ((n : Int) < 0) := by omega
  have h2 : ¬ (281474976710656 < Builtin.nextslicecap n 0 * i.bytes) := by omega
  have h3 : ¬ (281474976710656 < (n : Int) * (i.bytes : Int)) := by
    rw [← Int.natCast_mul]
    omega
  have h4 : ¬ (9223372036854775807 < (n : Int)) := by simp only [maxLen] at h63; omega
  have h5 : n ≠ 0 := by omega
  have h6 : i.size ≠ 0 := by omega
  refine ⟨grownCap w n 0 e, Builtin.zeroCells z.cells n ++ Builtin.zeroCells z.cells (grownCap w n 0 e - n), hge, hle, ?_, ?_⟩
  · simp only [Array.size_append, size_zeroCells, hzs, ← Nat.add_mul]
    congr 1
    omega
  · simp [Builtin.append_, run_underlying ht, run_underlying ht2, sizeOf, typeInfo, zeroValue, hi, hz, asInt, asIntOf, h0, h1, h2, h3, h4, h5, h6, Question.forced, newRow, grownCap, Builtin.firstCells]
    intro he
    exfalso
    rcases Nat.mul_eq_zero.1 he with h | h <;> omega
theorem wpList_append_zeros_nil {ops : Array Oper} {rest : List Oper} {o : Oper} {a : Act} {w : World} {Q : Exit → Act → World → Prop} (hgd : o.guard = none) (s x : Operand) (t t2 : TypeId)
    (ho : o.op = .call { callee := .builtin .append, args := #[s, x], argTypes := #[t, t2] }) (e : TypeId) {kd : IntKind}
    (i : TypeInfo) (z : Value) (size bytes : Nat) (ht : P.underlying t = some (.slice e)) (ht2 : P.underlying t2 = some (.int kd)) (hi : P.info? e = some i) (hz : i.zero = some z)
    (hsize : i.size = size) (hby : i.bytes = bytes) (hzs : z.cells.size = size) (hsz : 0 < size) (n : Nat) (hs : a.eval s = .slice none 0 0) (hx : a.eval x = .int .i64 n)
    (hn : 0 < n) (h63 : n ≤ maxLen) (hbytes : n * bytes ≤ 140737488355328)
    (h : ∀ cap cur, n ≤ cap → cap ≤ maxLen → cur.size = cap * size → wpList P ops Q rest (a.put o.dst (.slice (some ⟨w.heap.size, 0, none⟩) n cap)) (w.drew.alloc (.cells cur e))) :
    wpList P ops Q (o :: rest) a w :=
  wpList_plain hgd fun _ hK => by
    obtain ⟨cap, cur, g1, g2, g3, hrun⟩ := run_append_zeros_nil (P := P) w t t2 o.type e i z size bytes ht ht2 hi hz hsize hby hzs hsz n hn h63 hbytes
    unfold Oper.wp execOp
    simp only [ho, resolve, invoke, builtin, Sem.run_bind, Sem.run_pure, Result.andThen_ok, List.map_toArray, List.map_cons, List.map_nil, hs, hx, hrun]
    exact hK _ _ (h cap cur g1 g2 g3)
end
end Go.Proofs.Ytohnchkoldbpcaa

/- Maps as lists of pairs: what lookup, update, delete and len do to them, for keys whose equality is known. -/
namespace Go.Proofs.Ytohnchkoldbpcaa
open Go Go.RowKit

/-! ### Lists of pairs -/
section
variable {κ ν : Type} [DecidableEq κ]
def mfind (k : κ) : List (κ × ν) → Nat → Option (Nat × ν)
  | [], _ => none
  | (k', v) :: r, i => if k = k' then some (i, v) else mfind k r (i + 1)
def mget (k : κ) : List (κ × ν) → Option ν
  | [] => none
  | (k', v) :: r => if k = k' then some v else mget k r
def mput (k : κ) (v : ν) : List (κ × ν) → List (κ × ν)
  | [] => [(k, v)]
  | (k', v') :: r => if k = k' then (k', v) :: r else (k', v') :: mput k v r
def mdel (k : κ) : List (κ × ν) → List (κ × ν)
  | [] => []
  | (k', v') :: r => if k = k' then r else (k', v') :: mdel k r

theorem mfind_get (k : κ) : ∀ (m : List (κ × ν)) (i : Nat), (mfind k m i).map (·.2) = mget k m
  | [], _ => rfl
  | (k', v) :: r, i => by
    simp only [mfind, mget]
    split
    · rfl
    · exact mfind_get k r (i + 1)
theorem mfind_none {k : κ} {v : ν} : ∀ {m : List (κ × ν)} {i : Nat}, mfind k m i = none → mput k v m = m ++ [(k, v)] ∧ mdel k m = m ∧ k ∉ m.map (·.1)
  | [], _, _ => ⟨rfl, rfl, by simp⟩
  | (k', v') :: r, i, h => by
    simp only [mfind] at h
    split at h
    · cases h
    · rename_i hne
      obtain ⟨h1, h2, h3⟩ := mfind_none (v := v) h
      simp only [mput, mdel, if_neg hne, h1, h2, List.cons_append, List.map_cons, List.mem_cons, not_or]
      exact ⟨trivial, trivial, hne, h3⟩
theorem mfind_some {k : κ} {v : ν} : ∀ {m : List (κ × ν)} {i j : Nat} {u : ν}, mfind k m i = some (j, u) →
    i ≤ j ∧ m[j - i]? = some (k, u) ∧ mput k v m = m.set (j - i) (k, v) ∧ mdel k m = m.eraseIdx (j - i)
  | [], _, _, _, h => by cases h
  | (k', v') :: r, i, j, u, h => by
    simp only [mfind] at h
    split at h
    · rename_i he
      injection h with h
      injection h with h1 h2
      subst h1 h2 he
      simp [mput, mdel]
    · rename_i hne
      obtain ⟨h1, h2, h3, h4⟩ := mfind_some (v := v) h
      have e : j - i = (j - (i + 1)) + 1 := by omega
      refine ⟨by omega, ?_, ?_, ?_⟩
      · rw [e, List.getElem?_cons_succ]; exact h2
      · simp only [mput, if_neg hne]; rw [e, List.set_cons_succ, h3]
      · simp only [mdel, if_neg hne]; rw [e, List.eraseIdx_cons_succ, h4]

theorem keys_mput (k : κ) (v : ν) (m : List (κ × ν)) : (mput k v m).map (·.1) = if k ∈ m.map (·.1) then m.map (·.1) else m.map (·.1) ++ [k] := by
  induction m with
  | nil => simp [mput]
  | cons p r ih =>
    obtain ⟨k', v'⟩ := p
    simp only [mput]
    split
    · rename_i he; subst he; simp
    · rename_i hne
      simp only [List.map_cons, ih, List.mem_cons, hne, false_or]
      split <;> simp
theorem nodup_mput (k : κ) (v : ν) {m : List (κ × ν)} (h : (m.map (·.1)).Nodup) : ((mput k v m).map (·.1)).Nodup := by
  rw [keys_mput]
  split
  · exact h
  · rename_i hn
    rw [List.nodup_append]
    refine ⟨h, by simp, fun a ha b hb => ?_⟩
    simp at hb
    subst hb
    rintro rfl
    exact hn ha
theorem mdel_sub (k : κ) : ∀ (m : List (κ × ν)), (mdel k m).Sublist m
  | [] => List.Sublist.slnil
  | (k', v') :: r => by
    simp only [mdel]
    split
    · exact (List.sublist_cons_self _ _)
    · exact (mdel_sub k r).cons_cons _
theorem nodup_mdel (k : κ) {m : List (κ × ν)} (h : (m.map (·.1)).Nodup) : ((mdel k m).map (·.1)).Nodup := h.sublist ((mdel_sub k m).map _)
theorem mget_mput (k k' : κ) (v : ν) (m : List (κ × ν)) : mget k' (mput k v m) = if k' = k then some v else mget k' m := by
  induction m with
  | nil => simp [mput, mget]
  | cons p r ih =>
    obtain ⟨q, u⟩ := p
    simp only [mput]
    by_cases h : k = q
    · subst h
      simp only [if_true, mget]
      by_cases h' : k' = k <;> simp [h']
    · simp only [if_neg h, mget, ih]
      by_cases h1 : k' = q
      · subst h1
        rw [if_pos rfl, if_neg (fun e => h e.symm), if_pos rfl]
      · simp [h1]
theorem mget_none_iff (k : κ) (m : List (κ × ν)) : mget k m = none ↔ k ∉ m.map (·.1) := by
  induction m with
  | nil => simp [mget]
  | cons p r ih =>
    obtain ⟨q, u⟩ := p
    simp only [mget, List.map_cons, List.mem_cons, not_or]
    by_cases h : k = q
    · simp [h]
    · simp [h, ih]
theorem mget_mdel (k k' : κ) {m : List (κ × ν)} (hn : (m.map (·.1)).Nodup) : mget k' (mdel k m) = if k' = k then none else mget k' m := by
  induction m with
  | nil => simp [mdel, mget]
  | cons p r ih =>
    obtain ⟨q, u⟩ := p
    simp only [List.map_cons, List.nodup_cons] at hn
    simp only [mdel]
    by_cases h : k = q
    · subst h
      simp only [if_true, mget]
      by_cases h' : k' = k
      · subst h'
        simp [(mget_none_iff k' r).2 hn.1]
      · simp [h']
    · simp only [if_neg h, mget, ih hn.2]
      by_cases h1 : k' = q
      · subst h1
        rw [if_pos rfl, if_neg (fun e => h e.symm), if_pos rfl]
      · simp [h1]
def menc {ν' : Type} (f : ν → ν') (m : List (κ × ν)) : List (κ × ν') := m.map fun x => (x.1, f x.2)
theorem mget_menc {ν' : Type} (f : ν → ν') (k : κ) (m : List (κ × ν)) : mget k (menc f m) = (mget k m).map f := by
  induction m with
  | nil => rfl
  | cons p r ih =>
    simp only [menc, List.map_cons, mget] at ih ⊢
    split
    · rfl
    · exact ih
theorem mput_menc {ν' : Type} (f : ν → ν') (k : κ) (v : ν) (m : List (κ × ν)) : mput k (f v) (menc f m) = menc f (mput k v m) := by
  induction m with
  | nil => rfl
  | cons p r ih =>
    simp only [menc, List.map_cons, mput] at ih ⊢
    split
    · rfl
    · rw [ih]; rfl
theorem mdel_menc {ν' : Type} (f : ν → ν') (k : κ) (m : List (κ × ν)) : mdel k (menc f m) = menc f (mdel k m) := by
  induction m with
  | nil => rfl
  | cons p r ih =>
    simp only [menc, List.map_cons, mdel] at ih ⊢
    split
    · rfl
    · rw [ih]; rfl
end

/-! ### Keys -/
structure KeyLaw (P : Program) (kt : TypeId) {κ : Type} [DecidableEq κ] (enc : κ → Value) : Prop where
  check : ∀ (em : Bool) (k : κ) (w : World), (Instr.checkKey em 10000 kt (enc k)).run P w = .ok () w
  find : ∀ (k : κ) (m : List (κ × Value)) (l : List MapEntry) (i : Nat) (w : World), l.map (fun e => (e.key, e.val)) = m.map (fun x => (enc x.1, x.2)) →
    (∃ d, P.underlying kt = some d ∧ (Instr.findNow d (enc k) l i = some (mfind k m i) ∨
      (Instr.findNow d (enc k) l i = none ∧ (Instr.findAsking kt (enc k) l i).run P w = .ok (mfind k m i) w)))
  same : ∀ k, Instr.sameBits 10000 (enc k) (enc k) = true

section
variable {κ : Type} [DecidableEq κ] {P : Program} {kt : TypeId} {enc : κ → Value}
/-- keys that are compared at once: integers, strings -/
theorem KeyLaw.of_now {d : TypeDesc} (hd : P.underlying kt = some d) (hplain : ∀ (em : Bool) (k : κ) (w : World), (Instr.checkKey em 10000 kt (enc k)).run P w = .ok () w)
    (h : ∀ k k', Instr.sameNow d (enc k) (enc k') = some (decide (k = k'))) (hs : ∀ k, Instr.sameBits 10000 (enc k) (enc k) = true) : KeyLaw P kt enc := by
  have hnow : ∀ (k : κ) (m : List (κ × Value)) (l : List MapEntry) (i : Nat), l.map (fun e => (e.key, e.val)) = m.map (fun x => (enc x.1, x.2)) →
      Instr.findNow d (enc k) l i = some (mfind k m i) := by
    intro k m
    induction m with
    | nil =>
      intro l i hl
      have : l = [] := by simpa using hl
      subst this
      rfl
    | cons p r ih =>
      intro l i hl
      obtain ⟨q, u⟩ := p
      match l, hl with
      | e :: l', hl =>
        simp only [List.map_cons, List.cons.injEq, Prod.mk.injEq] at hl
        obtain ⟨⟨h1, h2⟩, h3⟩ := hl
        simp only [Instr.findNow, h1, h, mfind]
        by_cases he : k = q
        · simp [he, h2]
        · simp only [he, decide_false, if_false]
          exact ih l' (i + 1) h3
  exact ⟨hplain, fun k m l i w hl => ⟨d, hd, .inl (hnow k m l i hl)⟩, hs⟩
/-- keys that are compared by '==': arrays, structs -/
theorem KeyLaw.of_asking {d : TypeDesc} (hd : P.underlying kt = some d) (hplain : ∀ (em : Bool) (k : κ) (w : World), (Instr.checkKey em 10000 kt (enc k)).run P w = .ok () w)
    (h : ∀ k k', Instr.sameNow d (enc k) (enc k') = none) (he : ∀ k k' w, (Op.equal kt (enc k) (enc k')).run P w = .ok (decide (k = k')) w)
    (hs : ∀ k, Instr.sameBits 10000 (enc k) (enc k) = true) : KeyLaw P kt enc := by
  have hask : ∀ (k : κ) (m : List (κ × Value)) (l : List MapEntry) (i : Nat) (w : World), l.map (fun e => (e.key, e.val)) = m.map (fun x => (enc x.1, x.2)) →
      (Instr.findAsking kt (enc k) l i).run P w = .ok (mfind k m i) w := by
    intro k m
    induction m with
    | nil =>
      intro l i w hl
      have : l = [] := by simpa using hl
      subst this
      simp [Instr.findAsking, mfind]
    | cons p r ih =>
      intro l i w hl
      obtain ⟨q, u⟩ := p
      match l, hl with
      | e :: l', hl =>
        simp only [List.map_cons, List.cons.injEq, Prod.mk.injEq] at hl
        obtain ⟨⟨h1, h2⟩, h3⟩ := hl
        simp only [Instr.findAsking, h1, Sem.run_bind, he, Result.andThen_ok, mfind]
        by_cases hq : k = q
        · simp [hq, h2]
        · simp only [hq, decide_false, if_false, Bool.false_eq_true]
          exact ih l' (i + 1) w h3
  refine ⟨hplain, fun k m l i w hl => ⟨d, hd, ?_⟩, hs⟩
  match l, m, hl with
  | [], [], _ => exact .inl rfl
  | e :: l', (q, u) :: r, hl =>
    refine .inr ⟨?_, hask k _ _ i w hl⟩
    simp only [List.map_cons, List.cons.injEq, Prod.mk.injEq] at hl
    simp only [Instr.findNow, hl.1.1, h]

theorem KeyLaw.run_find (L : KeyLaw P kt enc) {k : κ} {m : List (κ × Value)} {l : List MapEntry} (w : World) (h : l.map (fun e => (e.key, e.val)) = m.map (fun x => (enc x.1, x.2))) :
    (Instr.findKey kt (enc k) l).run P w = .ok (mfind k m 0) w := by
  obtain ⟨d, hd, hf⟩ := L.find k m l 0 w h
  unfold Instr.findKey
  simp only [Sem.run_bind, run_underlying hd, Result.andThen_ok]
  rcases hf with hf | ⟨hf, hr⟩
  · simp [hf]
  · simp [hf, hr]
end

/-! ### A map's block -/
def MapObj {κ : Type} (enc : κ → Value) (m : List (κ × Value)) (o : Obj) : Prop :=
  ∃ (arr : Array MapEntry) (ck : Nat), o = .map arr ck ∧ arr.toList.map (fun e => (e.key, e.val)) = m.map (fun x => (enc x.1, x.2)) ∧
    (arr.toList.map (·.born)).Pairwise (· < ·) ∧ ∀ e ∈ arr.toList, e.born < ck
def MapAt {κ : Type} (w : World) (r : Nat) (enc : κ → Value) (m : List (κ × Value)) : Prop :=
  (m.map (·.1)).Nodup ∧ ∃ o, w.heap[r]? = some o ∧ MapObj enc m o

section
variable {κ : Type} {w w' : World} {r : Nat} {enc : κ → Value} {m : List (κ × Value)}
theorem MapAt.lt (h : MapAt w r enc m) : r < w.heap.size := by obtain ⟨_, o, h1, _⟩ := h; exact lt_of_heap h1
theorem MapAt.drew (h : MapAt w r enc m) : MapAt w.drew r enc m := h
theorem MapAt.drewN (h : MapAt w r enc m) (n : Nat) : MapAt (w.drewN n) r enc m := h
theorem MapAt.kept (h : MapAt w r enc m) (hk : w'.heap[r]? = w.heap[r]?) : MapAt w' r enc m := by
  obtain ⟨h0, o, h1, h2⟩ := h
  exact ⟨h0, o, hk.trans h1, h2⟩
theorem MapAt.alloc (h : MapAt w r enc m) (o : Obj) : MapAt (w.alloc o) r enc m := h.kept (Below.heap_alloc w o r h.lt)
theorem MapAt.fr {S : Nat → Prop} (h : MapAt w r enc m) (hf : Fr S w w') (hS : ¬ S r) : MapAt w' r enc m := h.kept (hf.block r h.lt hS)
theorem MapAt.ne {g : Nat} {t : TypeId} {cs : List Value} (h : MapAt w r enc m) (hb : Blk w g t cs) : g ≠ r := by
  obtain ⟨_, o, h1, arr, ck, rfl, _⟩ := h
  exact hb.ne_map h1
theorem MapAt.far (h : MapAt w r enc m) {p : Addr} (hp : r ≠ p.block) (u : Value) : MapAt (w.setCell p u) r enc m := h.kept (Below.heap_setCell w p u r hp)
theorem MapAt.not_cells (h : MapAt w r enc m) (cur : Array Value) (t : TypeId) (fr : Nat × Nat) : w.heap[r]? ≠ some (.cells cur t fr) := by
  obtain ⟨_, o, h1, arr, ck, rfl, _⟩ := h
  rw [h1]
  simp
theorem MapAt.new (w : World) (enc : κ → Value) : MapAt (w.alloc (.map #[] 0)) w.heap.size enc [] :=
  ⟨by simp, _, heap_alloc_new w _, #[], 0, rfl, rfl, by simp, by simp⟩
end

section
variable {κ : Type} [DecidableEq κ] {P : Program} {kt et t : TypeId} {enc : κ → Value} {w : World} {r : Nat} {m : List (κ × Value)}
theorem run_lookup (L : KeyLaw P kt enc) (ht : P.underlying t = some (.map kt et)) {i : TypeInfo} {z : Value} (hi : P.info? et = some i) (hz : i.zero = some z) (h : MapAt w r enc m) (k : κ) (c : Bool) :
    (Instr.lookup t (.map (some r)) (enc k) c).run P w = .ok (if c then .tuple #[(mget k m).getD z, .bool (mget k m).isSome] else (mget k m).getD z) w := by
  obtain ⟨_, o, h1, arr, ck, rfl, h2, _⟩ := h
  have hf := L.run_find (k := k) w h2
  have hg := mfind_get k m 0
  unfold Instr.lookup
  simp only [Sem.run_bind, run_underlying ht, Result.andThen_ok, Sem.run_pure, getObj, Sem.run, h1, L.check, hf]
  cases hm : mfind k m 0 with
  | none =>
    rw [hm] at hg
    have : mget k m = none := by simpa using hg.symm
    cases c <;> simp [this, zeroValue, typeInfo, hi, hz]
  | some p =>
    rw [hm] at hg
    have : mget k m = some p.2 := by simpa using hg.symm
    cases c <;> simp [this]
theorem run_lookup_nil (L : KeyLaw P kt enc) (ht : P.underlying t = some (.map kt et)) {i : TypeInfo} {z : Value} (hi : P.info? et = some i) (hz : i.zero = some z) (k : κ) (c : Bool) (w : World) :
    (Instr.lookup t (.map none) (enc k) c).run P w = .ok (if c then .tuple #[z, .bool false] else z) w := by
  obtain ⟨d, hd, hf⟩ := L.find k [] [] 0 w rfl
  have hf' := L.run_find (k := k) (m := []) (l := []) w rfl
  unfold Instr.lookup
  simp only [Sem.run_bind, run_underlying ht, Result.andThen_ok, Sem.run_pure, L.check, hf', mfind]
  cases c <;> simp [zeroValue, typeInfo, hi, hz, hf', mfind]

theorem run_update (L : KeyLaw P kt enc) (ht : P.underlying t = some (.map kt et)) (h : MapAt w r enc m) (k : κ) (v : Value) :
    ∃ o, (Instr.mapUpdate t (.map (some r)) (enc k) v).run P w = .ok () (setObjAt w r o) ∧ MapAt (setObjAt w r o) r enc (mput k v m) ∧ MapObj enc (mput k v m) o := by
  have hlt := h.lt
  obtain ⟨hn, o, h1, arr, ck, rfl, h2, hp, hb⟩ := h
  have hf := L.run_find (k := k) w h2
  have key : ∀ o', MapObj enc (mput k v m) o' → MapAt (setObjAt w r o') r enc (mput k v m) := fun o' ho => ⟨nodup_mput k v hn, o', setObjAt_same w r o' hlt, ho⟩
  cases hm : mfind k m 0 with
  | none =>
    obtain ⟨e1, e2, e3⟩ := mfind_none (v := v) hm
    have ho : MapObj enc (mput k v m) (.map (arr.push { key := enc k, val := v, born := ck }) (ck + 1)) := by
      refine ⟨_, _, rfl, ?_, ?_, ?_⟩
      · simp [e1, h2]
      · simp only [Array.toList_push, List.map_append, List.map_cons, List.map_nil, List.pairwise_append, hp, true_and, List.pairwise_cons, List.not_mem_nil, false_implies, implies_true, List.Pairwise.nil, List.mem_singleton, and_self]
        rintro a ha b rfl
        obtain ⟨e, he, rfl⟩ := List.mem_map.1 ha
        exact hb e he
      · intro e he
        simp only [Array.toList_push, List.mem_append, List.mem_singleton] at he
        rcases he with he | rfl
        · exact Nat.lt_succ_of_lt (hb e he)
        · exact Nat.lt_succ_self _
    refine ⟨_, ?_, key _ ho, ho⟩
    unfold Instr.mapUpdate
    simp only [Sem.run_bind, run_underlying ht, Result.andThen_ok, getObj, Sem.run, h1, L.check, hf, hm, setObj]
    rfl
  | some p =>
    obtain ⟨j, u⟩ := p
    obtain ⟨_, e1, e2, _⟩ := mfind_some (v := v) hm
    simp only [Nat.sub_zero] at e1 e2
    have hj : (arr.toList.map fun e => (e.key, e.val))[j]? = some (enc k, u) := by rw [h2, List.getElem?_map, e1]; rfl
    rw [List.getElem?_map] at hj
    obtain ⟨e0, he0, hek⟩ : ∃ e, arr.toList[j]? = some e ∧ (e.key, e.val) = (enc k, u) := by
      cases hh : arr.toList[j]? with
      | none => rw [hh] at hj; cases hj
      | some e => rw [hh] at hj; exact ⟨e, rfl, by simpa using hj⟩
    injection hek with hek1 hek2
    have hjl : j < arr.size := by have := (List.getElem?_eq_some_iff.1 he0).1; simpa using this
    have ha : arr[j]? = some e0 := by simpa using he0
    have hae : arr[j] = e0 := (Array.getElem?_eq_some_iff.1 ha).2
    have hmod : (arr.modify j fun e => { e with key := enc k, val := v }).toList = arr.toList.set j { e0 with key := enc k, val := v } := by
      apply List.ext_getElem?
      intro q
      have hq0 : arr.toList[j]? = some e0 := he0
      simp only [Array.getElem?_toList, Array.getElem?_modify, List.getElem?_set, Array.length_toList]
      by_cases hq : j = q
      · subst hq
        simp [ha, hjl, hae]
      · simp [hq]
    have ho : MapObj enc (mput k v m) (.map (arr.modify j fun e => { e with key := enc k, val := v }) ck) := by
      refine ⟨_, _, rfl, ?_, ?_, ?_⟩
      · rw [hmod, List.map_set, h2, e2, List.map_set]
      · rw [hmod, List.map_set]
        have : (arr.toList.map (·.born)).set j e0.born = arr.toList.map (·.born) := by
          apply List.ext_getElem?
          intro q
          rw [List.getElem?_set]
          by_cases hq : j = q
          · subst hq; simp [ha, hjl, hae]
          · simp [hq]
        simpa [this] using hp
      · intro e he
        rw [hmod] at he
        rcases List.mem_or_eq_of_mem_set he with he | rfl
        · exact hb e he
        · exact hb e0 (List.mem_of_getElem? he0)
    refine ⟨_, ?_, key _ ho, ho⟩
    unfold Instr.mapUpdate
    simp only [Sem.run_bind, run_underlying ht, Result.andThen_ok, getObj, Sem.run, h1, L.check, hf, hm, setObj, ha, Option.map_some, Option.getD_some, hek1, Instr.keyThatStays, L.same, if_true, Sem.run_pure]
    rfl

theorem run_delete (L : KeyLaw P kt enc) (ht : P.underlying t = some (.map kt et)) (h : MapAt w r enc m) (k : κ) (ty : TypeId) (t2 : TypeId) :
    ∃ o, (Builtin.delete_ #[t, t2] ty #[.map (some r), enc k]).run P w = .ok (.tuple #[]) (setObjAt w r o) ∧ MapAt (setObjAt w r o) r enc (mdel k m) ∧ MapObj enc (mdel k m) o := by
  have hlt := h.lt
  obtain ⟨hn, o, h1, arr, ck, rfl, h2, hp, hb⟩ := h
  have hf := L.run_find (k := k) w h2
  have key : ∀ o', MapObj enc (mdel k m) o' → MapAt (setObjAt w r o') r enc (mdel k m) := fun o' ho => ⟨nodup_mdel k hn, o', setObjAt_same w r o' hlt, ho⟩
  cases hm : mfind k m 0 with
  | none =>
    obtain ⟨_, e2, _⟩ := mfind_none (v := .nilFunc) hm
    have ho : MapObj enc (mdel k m) (.map arr ck) := ⟨arr, ck, rfl, by rw [e2]; exact h2, hp, hb⟩
    refine ⟨_, ?_, key _ ho, ho⟩
    unfold Builtin.delete_
    simp [run_underlying ht, getObj, Sem.run, h1, L.check, hf, hm, setObj, setObjAt]
  | some p =>
    obtain ⟨j, u⟩ := p
    obtain ⟨_, e1, _, e2⟩ := mfind_some (v := .nilFunc) hm
    simp only [Nat.sub_zero] at e1 e2
    have hjl : j < arr.size := by
      have := congrArg List.length h2
      have h3 := (List.getElem?_eq_some_iff.1 e1).1
      simp at this
      omega
    have her : (arr.eraseIdxIfInBounds j).toList = arr.toList.eraseIdx j := by simp [Array.eraseIdxIfInBounds, hjl]
    have ho : MapObj enc (mdel k m) (.map (arr.eraseIdxIfInBounds j) ck) := by
      refine ⟨_, _, rfl, ?_, ?_, ?_⟩
      · rw [her, e2, Go.ChangeMaps.map_eraseIdx, h2, Go.ChangeMaps.map_eraseIdx]
      · rw [her, Go.ChangeMaps.map_eraseIdx]; exact hp.sublist (List.eraseIdx_sublist _ _)
      · intro e he
        rw [her] at he
        exact hb e ((List.eraseIdx_sublist _ _).subset he)
    refine ⟨_, ?_, key _ ho, ho⟩
    unfold Builtin.delete_
    simp [run_underlying ht, getObj, Sem.run, h1, L.check, hf, hm, setObj, setObjAt]

omit [DecidableEq κ] in
theorem run_len_map (ht : P.underlying t = some (.map kt et)) (h : MapAt w r enc m) (ty : TypeId) :
    (Builtin.len_ #[t] ty #[.map (some r)]).run P w = .ok (.int .i64 m.length) w := by
  obtain ⟨_, o, h1, arr, ck, rfl, h2, _⟩ := h
  have := congrArg List.length h2
  simp at this
  unfold Builtin.len_
  simp [run_underlying ht, getObj, Sem.run, h1, goInt, this]
end
end Go.Proofs.Ytohnchkoldbpcaa

/- wire: what can be a link, a message. -/
namespace Go.Proofs.Ytohnchkoldbpcaa
open Go Go.RowKit Go.Proofs

structure Msg where
  frm : Int
  to_ : Int
  kind : Int
  n : Int
  low : Int
  mins : Int
  code : Int
  text : ByteArray
abbrev Msg.vals (m : Msg) : List Value := [.int .i64 m.frm, .int .i64 m.to_, .int .i64 m.kind, .int .i64 m.n, .int .i64 m.low, .int .i64 m.mins, .int .i64 m.code, .string m.text]
abbrev Msg.val (m : Msg) : Value := .agg #[.int .i64 m.frm, .int .i64 m.to_, .int .i64 m.kind, .int .i64 m.n, .int .i64 m.low, .int .i64 m.mins, .int .i64 m.code, .string m.text]

def linkB (a b : Int) : Bool := decide (0 ≤ a) && decide (b < 8) && (a != b)
def inR (n : Int) : Bool := decide (0 ≤ n) && decide (n ≤ 4611686018427387904)
def rightB (m : Msg) : Bool := inR m.n && inR m.low && inR m.mins && (linkB (min m.frm m.to_) (max m.frm m.to_) && decide (1 ≤ m.kind) && decide (m.kind ≤ 9) && decide (m.text.size ≤ 20))

theorem ret_bool {a b : Bool} (h : a = b) : Ending.returned (.bool a) = .returned (.bool b) := by rw [h]

set_option maxHeartbeats 400000 in
theorem linkOf_any (a b : Int) (w : World) :
    Calls Try.prog 61 #[.int .i64 a, .int .i64 b] w fun e w' => e = .returned (.agg #[.int .i64 (min a b), .int .i64 (max a b)]) ∧ Fr No w w' := by
  by_cases h : a < b
  · have h1 : ¬ b < a := by omega
    have e1 : min a b = a := by omega
    have e2 : max a b = b := by omega
    rw [e1, e2]
    clear e1 e2
    go_enter Try.func61, Try.ntmps61
    go_wp2
    exact bodyPost_ret (v := .agg #[.int .i64 a, .int .i64 b]) (by simp [results, Try.results61, go_sem]) rfl ⟨rfl, (Fr.refl _ _).alloc _⟩
  · have e1 : min a b = b := by omega
    have e2 : max a b = a := by omega
    rw [e1, e2]
    clear e1 e2
    by_cases h1 : b < a
    · go_enter Try.func61, Try.ntmps61
      go_wp2
      exact bodyPost_ret (v := .agg #[.int .i64 b, .int .i64 a]) (by simp [results, Try.results61, go_sem]) rfl ⟨rfl, (Fr.refl _ _).alloc _⟩
    · obtain rfl : a = b := by omega
      go_enter Try.func61, Try.ntmps61
      go_wp2
      exact bodyPost_ret (v := .agg #[.int .i64 a, .int .i64 a]) (by simp [results, Try.results61, go_sem]) rfl ⟨rfl, (Fr.refl _ _).alloc _⟩

theorem linkRight_any (a b : Int) (w : World) :
    Calls Try.prog 62 #[.agg #[.int .i64 a, .int .i64 b]] w fun e w' => e = .returned (.bool (linkB a b)) ∧ Fr No w w' := by
  by_cases h1 : 0 ≤ a
  · by_cases h2 : b < 8
    · have e : linkB a b = (a != b) := by simp [linkB, h1, h2]
      rw [e]; clear e
      go_enter Try.func62, Try.ntmps62
      go_wp2
      go_ret
      exact ⟨rfl, (Fr.refl _ _).alloc _⟩
    · have e : linkB a b = false := by simp [linkB, h2]
      rw [e]; clear e
      go_enter Try.func62, Try.ntmps62
      go_wp2
      go_ret
      exact ⟨rfl, (Fr.refl _ _).alloc _⟩
  · have e : linkB a b = false := by simp [linkB, h1]
    rw [e]; clear e
    go_enter Try.func62, Try.ntmps62
    go_wp2
    go_ret
    exact ⟨rfl, (Fr.refl _ _).alloc _⟩

def Step3 (m : Msg) (i : Value) : Prop :=
  i = .int .i64 0 ∨ (i = .int .i64 1 ∧ inR m.n = true) ∨ (i = .int .i64 2 ∧ inR m.n = true ∧ inR m.low = true) ∨ (i = .int .i64 3 ∧ inR m.n = true ∧ inR m.low = true ∧ inR m.mins = true)
theorem inR_of (n : Int) (h : 0 ≤ n) (h' : n ≤ 4611686018427387904) : inR n = true := by simp [inR, h, h']
theorem inR_lo (n : Int) (h : n < 0) : inR n = false := by simp [inR]; omega
theorem inR_hi (n : Int) (h : 4611686018427387904 < n) : inR n = false := by simp [inR]; omega

set_option maxRecDepth 100000 in
set_option maxHeartbeats 1000000 in
theorem msgRight_any (m : Msg) (w : World) :
    Calls Try.prog 52 #[m.val] w fun e w' => e = .returned (.bool (rightB m)) ∧ Fr No w w' := by
  have i0 : ∀ (x y z : Value) (w : World), (Instr.index 120 (.agg #[x, y, z]) (.int .i64 0)).run Try.prog w = .ok x w := fun _ _ _ _ => by kernel_rfl
  have i1 : ∀ (x y z : Value) (w : World), (Instr.index 120 (.agg #[x, y, z]) (.int .i64 1)).run Try.prog w = .ok y w := fun _ _ _ _ => by kernel_rfl
  have i2 : ∀ (x y z : Value) (w : World), (Instr.index 120 (.agg #[x, y, z]) (.int .i64 2)).run Try.prog w = .ok z w := fun _ _ _ _ => by kernel_rfl
  go_enter Try.func52, Try.ntmps52
  go_wp2
  go_loop [4, 12] (fun _ i => Step3 m i) (fun _ i => 3 - (intOf i).toNat)
  case atStart => exact .inl rfl
  case round =>
    rcases hrel with rfl | ⟨rfl, h1⟩ | ⟨rfl, h1, h2⟩ | ⟨rfl, h1, h2, h3⟩
    · go_wp2
      all_goals first
        | exact ⟨.inr (.inl ⟨rfl, by simp [inR]; omega⟩), by simp [intOf]⟩
        | (go_ret; exact ⟨ret_bool (by rw [rightB, show inR m.n = false from by simp [inR]; omega]; rfl), (Fr.refl _ _).alloc _⟩)
    · have H1 := Lib.hid h1
      clear h1
      go_wp2
      all_goals first
        | exact ⟨.inr (.inr (.inl ⟨rfl, H1.out, by simp [inR]; omega⟩)), by simp [intOf]⟩
        | (go_ret; exact ⟨ret_bool (by rw [rightB, show inR m.low = false from by simp [inR]; omega]; simp), (Fr.refl _ _).alloc _⟩)
    · have H1 := Lib.hid h1
      have H2 := Lib.hid h2
      clear h1 h2
      go_wp2
      all_goals first
        | exact ⟨.inr (.inr (.inr ⟨rfl, H1.out, H2.out, by simp [inR]; omega⟩)), by simp [intOf]⟩
        | (go_ret; exact ⟨ret_bool (by rw [rightB, show inR m.mins = false from by simp [inR]; omega]; simp), (Fr.refl _ _).alloc _⟩)
    · have key : rightB m = (linkB (min m.frm m.to_) (max m.frm m.to_) && decide (1 ≤ m.kind) && decide (m.kind ≤ 9) && decide (m.text.size ≤ 20)) := by simp [rightB, h1, h2, h3]
      have HK := Lib.hid key
      clear key h1 h2 h3
      cases hL : linkB (min m.frm m.to_) (max m.frm m.to_)
      all_goals
        go_wp2_with (first
          | (go_at_call 61; refine (linkOf_any _ _ _).mono ?_; rintro e w1 ⟨rfl, hf1⟩; have hc1 := hf1.cells; have hz1 : w.heap.size < w1.heap.size := by have := hf1.size; simp at this; omega)
          | (go_at_call 62; refine (linkRight_any _ _ _).mono ?_; rintro e w2 ⟨rfl, hf2⟩; have hc2 := hf2.cells))
        all_goals go_ret
        all_goals refine ⟨ret_bool (by rw [HK.out, hL, Bool.eq_iff_iff]; simp <;> omega), ?_⟩
        all_goals exact (((Fr.refl _ _).alloc _).trans hf1).trans hf2
end Go.Proofs.Ytohnchkoldbpcaa

/- wire: links as keys. -/
namespace Go.Proofs.Ytohnchkoldbpcaa
open Go Go.RowKit Go.Proofs

abbrev encLink (l : Int × Int) : Value := .agg #[.int .i64 l.1, .int .i64 l.2]

theorem link_info : (Try.prog.info? 3).map (fun i => (i.zero, i.size, i.bytes)) = some (some (.int .i64 0), 1, 8) := by kernel_rfl
theorem link_und : Try.prog.underlying 118 = some (.array 2 3) := by kernel_rfl
theorem int_und : Try.prog.underlying 3 = some (.int .i64) := by kernel_rfl

theorem link_check (em : Bool) (d : Nat) (a b : Int) (w : World) : (Instr.checkKey em (d + 2) 118 (encLink (a, b))).run Try.prog w = .ok () w := by
  obtain ⟨i0, hi0, hz0, hz1, hz2⟩ := info_parts link_info
  simp [Instr.checkKey, run_underlying link_und, run_underlying int_und, Std.Legacy.Range.forIn_eq_forIn_range', Std.Legacy.Range.size, List.range', part, isAgg, sizeOf, typeInfo, hi0, hz1]
theorem link_equal (d : Nat) (a b c e : Int) (w : World) : (Op.equalIn (d + 2) 118 (encLink (a, b)) (encLink (c, e))).run Try.prog w = .ok (decide ((a, b) = (c, e))) w := by
  obtain ⟨i0, hi0, hz0, hz1, hz2⟩ := info_parts link_info
  simp [Op.equalIn, run_underlying link_und, run_underlying int_und, Std.Legacy.Range.forIn_eq_forIn_range', Std.Legacy.Range.size, List.range', part, isAgg, sizeOf, typeInfo, hi0, hz1]
  by_cases h1 : a = c <;> by_cases h2 : b = e <;> simp [h1, h2]
theorem link_law : KeyLaw Try.prog 118 encLink :=
  KeyLaw.of_asking link_und (fun em k w => link_check em 9998 k.1 k.2 w) (fun _ _ => rfl) (fun k k' w => link_equal 9998 k.1 k.2 k'.1 k'.2 w) (fun k => by simp [Instr.sameBits])
end Go.Proofs.Ytohnchkoldbpcaa

/- A region that draws its order, walked once in an order of our own: pure operations and readers first, the loud ones where nothing else can come up. -/
/- as XOrd, but an operation of tag 2 may change the blocks of S, and readers read elsewhere -/
namespace Go.Proofs.Ytohnchkoldbpcaa.OS
open Go Go.RowKit

section
variable {S : Nat → Prop} {P : Program} {ops : Array Oper} {Q : Exit → Act → World → Prop} {md : Region.Mode}

/-- whatever has come up, all that it waits for has -/
def Closed (md : Region.Mode) (ops : Array Oper) (listed : Array Bool) : Prop :=
  ∀ j o, ops[j]? = some o → listed.getD j false = true → ∀ e ∈ o.after, Region.binds md e = true → listed.getD e.on false = true
/-- whom an operation waits for, through others too, as bits -/
def maskOf (md : Region.Mode) (acc : List Nat) (o : Oper) : Nat := o.after.toList.foldl (fun m e => if Region.binds md e then m ||| 2 ^ e.on ||| acc.getD e.on 0 else m) 0
def ancs (md : Region.Mode) : List Oper → List Nat → List Nat
  | [], acc => acc
  | o :: r, acc => ancs md r (acc ++ [maskOf md acc o])
def waitsM (anc : List Nat) (i j : Nat) : Bool := (anc.getD j 0).testBit i
theorem mask_fold (acc : List Nat) (i : Nat) : ∀ (l : List Edge) (m : Nat), (l.foldl (fun m e => if Region.binds md e then m ||| 2 ^ e.on ||| acc.getD e.on 0 else m) m).testBit i = true →
    m.testBit i = true ∨ ∃ e ∈ l, Region.binds md e = true ∧ (e.on = i ∨ (acc.getD e.on 0).testBit i = true)
  | [], m, h => .inl h
  | e :: r, m, h => by
    rw [List.foldl_cons] at h
    rcases mask_fold acc i r _ h with h1 | ⟨e', he', h1⟩
    · cases hb : Region.binds md e with
      | false => rw [hb] at h1; simp only [Bool.false_eq_true, if_false] at h1; exact .inl h1
      | true =>
        rw [hb] at h1
        simp only [if_true, Nat.testBit_or, Bool.or_eq_true, Nat.testBit_two_pow, decide_eq_true_eq] at h1
        rcases h1 with (h1 | h1) | h1
        · exact .inl h1
        · exact .inr ⟨e, List.mem_cons_self, hb, .inl h1⟩
        · exact .inr ⟨e, List.mem_cons_self, hb, .inr h1⟩
    · exact .inr ⟨e', List.mem_cons_of_mem _ he', h1⟩
def GoodAnc (md : Region.Mode) (ops : Array Oper) (listed : Array Bool) (anc : List Nat) : Prop :=
  ∀ i j, waitsM anc i j = true → (∀ o, ops[j]? = some o → ∀ e ∈ o.after, Region.binds md e = true → listed.getD e.on false = true) → listed.getD i false = true
theorem ancs_good {listed : Array Bool} (hc : Closed md ops listed) : ∀ (rest pre : List Oper) (acc : List Nat), ops.toList = pre ++ rest → acc.length = pre.length → GoodAnc md ops listed acc → GoodAnc md ops listed (ancs md rest acc)
  | [], _, _, _, _, h => h
  | o :: r, pre, acc, hp, hl, h => by
    unfold ancs
    refine ancs_good hc r (pre ++ [o]) _ (by rw [hp, List.append_assoc]; rfl) (by simp [hl]) ?_
    intro i j hw hj
    unfold waitsM at hw
    rw [List.getD_eq_getElem?_getD] at hw
    rcases Nat.lt_trichotomy j acc.length with h1 | h1 | h1
    · rw [List.getElem?_append_left h1, ← List.getD_eq_getElem?_getD] at hw
      exact h i j hw hj
    · subst h1
      rw [List.getElem?_append_right (Nat.le_refl _)] at hw
      simp only [Nat.sub_self, List.getElem?_cons_zero, Option.getD_some] at hw
      have ho : ops[acc.length]? = some o := by
        rw [← Array.getElem?_toList, hp, hl, List.getElem?_append_right (Nat.le_refl _)]
        simp
      rcases mask_fold acc i _ _ hw with h2 | ⟨e, he, hb, h2⟩
      · rw [Nat.zero_testBit] at h2; cases h2
      · have hle := hj o ho e (by simpa using he) hb
        rcases h2 with rfl | h2
        · exact hle
        · exact h i e.on h2 fun o' ho' => hc _ o' ho' hle
    · rw [List.getElem?_append_right (by omega)] at hw
      rw [List.getElem?_eq_none (by simp; omega)] at hw
      simp at hw
theorem ancs_ok {listed : Array Bool} (hc : Closed md ops listed) : GoodAnc md ops listed (ancs md ops.toList []) :=
  ancs_good hc ops.toList [] [] rfl rfl fun i j h => by simp [waitsM] at h
theorem Closed.set {listed : Array Bool} (hc : Closed md ops listed) {j : Nat} (hj : j ∈ Region.ready md ops listed) : Closed md ops (listed.setIfInBounds j true) := by
  intro k o ho hk e he hb
  by_cases hjk : j = k
  · subst hjk
    obtain ⟨_, o', ho', hall⟩ := mem_ready.1 hj
    rw [ho] at ho'
    injection ho' with ho'
    subst ho'
    exact getD_set_true (hall e he hb)
  · rw [getD_set_ne false hjk] at hk
    exact getD_set_true (hc k o ho hk e he hb)

/-- tags: 0 pure, 1 reader, 2 loud but only new blocks, 3 loud -/
def extTag (tags : List (Nat × Nat)) (j : Nat) : Bool := match tags.lookup j with
  | some 3 => false
  | some _ => true
  | none => false

/-- in a, from w on, o yields v: whatever the world (tag 0), in every world that holds what w holds (tag 1) -/
def Quiet (P : Program) (s : Sem Next) (v : Value) (w : World) : Prop :=
  s.run P w = .ok (.value v) w ∨ ∃ f args, s.run P w = .ok (.enter f args) w ∧ Calls P f args w fun e w' => e = .returned v ∧ w' = w
def YieldsT (S : Nat → Prop) (P : Program) (ops : Array Oper) (pure_ : Bool) (o : Oper) (v : Value) (a : Act) (w : World) : Prop :=
  (Region.wanted o (yielded ops a.tmps) = true ∧ ∀ w', (pure_ = true ∨ Fr S w w') → Quiet P (execOp a.eval o) v w') ∨
  (Region.wanted o (yielded ops a.tmps) = false ∧ v = undef)

def wpAnyE (S : Nat → Prop) (P : Program) (md : Region.Mode) (ops : Array Oper) (ext : Nat → Bool) (Q : Exit → Act → World → Prop) : Nat → Array Bool → Act → World → Prop
  | 0, listed, a, w => Region.ready md ops listed = [] ∧ Q .normal a w
  | fuel + 1, listed, a, w =>
    (Region.ready md ops listed = [] → Q .normal a w) ∧
    ∀ i ∈ Region.ready md ops listed, wpOp P ops Q i (fun a' w' => (ext i = true → Fr S w w') ∧ wpAnyE S P md ops ext Q fuel (listed.setIfInBounds i true) a' w') a w

theorem wpAny_of_E {ext : Nat → Bool} : ∀ (fuel : Nat) (listed : Array Bool) (a : Act) (w : World), wpAnyE S P md ops ext Q fuel listed a w → wpAny P md ops Q fuel listed a w
  | 0, _, _, _, h => h
  | fuel + 1, _, _, _, h => ⟨h.1, fun i hi => wpOp_mono (fun a' w' h' => wpAny_of_E fuel _ a' w' h'.2) (h.2 i hi)⟩

theorem wpOp_put' {j : Nat} {oi oj : Oper} {v : Value} (hj : ops[j]? = some oj) (hap : oi.apart ops oj = true)
    (hsi : ∀ cs b, oi.op ≠ .select cs b) (hsj : ∀ cs b, oj.op ≠ .select cs b) (hQ : ∀ c a w, ¬ Q (.panic c) a w) {K : Act → World → Prop} {a : Act} {w : World}
    (h : wpOp P ops Q j K (a.put oi.dst v) w) :
    wpOp P ops Q j (fun a' w' => (execOp a'.eval oi = execOp a.eval oi ∧ Region.wanted oi (yielded ops a'.tmps) = Region.wanted oi (yielded ops a.tmps)) ∧ K (a'.put oi.dst v) w') a w := by
  obtain ⟨h1, h2, h3⟩ := Oper.apart_spec hap
  have keep : ∀ u, execOp (a.put oj.dst u).eval oi = execOp a.eval oi ∧ Region.wanted oi (yielded ops (a.put oj.dst u).tmps) = Region.wanted oi (yielded ops a.tmps) := fun u =>
    ⟨execOp_put oi hsi a oj.dst u h3, wanted_put oi a oj.dst u h3⟩
  unfold wpOp at *
  simp only [hj] at *
  rw [wanted_put oj a oi.dst v h1] at h
  split
  · rename_i hw
    simp only [hw, if_true] at h
    rcases h with h | ⟨hasks, hlets⟩
    case inr => exact .inr ⟨by unfold Oper.asks at *; rw [execOp_put oj hsj a oi.dst v h1] at hasks; exact hasks, hlets⟩
    refine .inl ?_
    unfold Oper.wp at *
    rw [execOp_put oj hsj a oi.dst v h1] at h
    generalize (execOp a.eval oj).run P w = r at *
    cases r with
    | ok n w' =>
      cases n <;> simp only [Oper.upon] at h ⊢
      case value u => exact ⟨keep u, by rw [← Act.put_comm a v u h2]; exact h⟩
      case skip => exact ⟨keep _, by rw [← Act.put_comm a v undef h2]; exact h⟩
      case defer d =>
        have k2 := keep (undef)
        refine ⟨?_, ?_⟩
        · have e1 : execOp (({ a with defers := d :: a.defers } : Act).put oj.dst undef).eval oi = execOp ({ a with defers := d :: a.defers } : Act).eval oi := execOp_put oi hsi _ oj.dst undef h3
          have e2 := wanted_put (ops := ops) oi ({ a with defers := d :: a.defers } : Act) oj.dst undef h3
          exact ⟨e1, e2⟩
        · rw [← Act.put_comm _ v undef h2, ← Act.put_defers]
          exact h
      case enter f args =>
        refine Calls.mono h fun e w'' he => ?_
        cases e with
        | returned u => exact ⟨keep u, by rw [← Act.put_comm a v u h2]; exact he⟩
        | panicked c => exact (hQ _ _ _ he).elim
        | outgrown => exact he
      case row row args => exact Rows.mono h fun u w'' he => ⟨keep u, by rw [← Act.put_comm a v u h2]; exact he⟩
    | halt x w' =>
      cases x <;> simp only [Oper.upon] at h ⊢
      case panic u => exact (hQ _ _ _ h).elim
  · rename_i hw
    simp only [hw] at h
    exact ⟨keep _, by rw [← Act.put_comm a v undef h2]; exact h⟩

theorem YieldsT.wpOp {i : Nat} {o : Oper} {pu : Bool} {v : Value} {a : Act} {w : World} (hi : ops[i]? = some o) (hy : YieldsT S P ops pu o v a w)
    {K : Act → World → Prop} (h : K (a.put o.dst v) w) : wpOp P ops Q i K a w := by
  unfold Go.wpOp
  simp only [hi]
  rcases hy with ⟨hw, hv⟩ | ⟨hw, rfl⟩
  · rcases hv w (.inr (Fr.refl _ _)) with hr | ⟨f, args, hr, hc⟩
    · simp only [hw, if_true, Oper.wp, hr, Oper.upon]; exact .inl h
    · simp only [hw, if_true, Oper.wp, hr, Oper.upon]
      refine .inl (Calls.mono hc fun e w' he => ?_)
      obtain ⟨rfl, rfl⟩ := he
      exact h
  · simp only [hw, Bool.false_eq_true, if_false]; exact h

theorem wpAnyE_first {anc : List Nat} (hW : ∀ listed, Closed md ops listed → GoodAnc md ops listed anc) {ext : Nat → Bool} {i : Nat} {oi : Oper} {pu : Bool} {v : Value} (hi : ops[i]? = some oi) (hsel : ∀ (j : Nat) (o : Oper) cs b, ops[j]? = some o → o.op ≠ .select cs b)
    (hQ : ∀ c a w, ¬ Q (.panic c) a w) :
    ∀ (fuel : Nat) (listed : Array Bool) (a : Act) (w : World), Closed md ops listed →
      (∀ j oj, ops[j]? = some oj → j ≠ i → listed.getD j true = false → waitsM anc i j = false → oi.apart ops oj = true ∧ (pu = true ∨ ext j = true)) →
      i ∈ Region.ready md ops listed → YieldsT S P ops pu oi v a w →
      wpAnyE S P md ops ext Q fuel (listed.setIfInBounds i true) (a.put oi.dst v) w → wpAnyE S P md ops ext Q (fuel + 1) listed a w := by
  intro fuel
  induction fuel with
  | zero =>
    intro listed a w _ _ hr hy H
    refine ⟨fun h => (by rw [h] at hr; cases hr), fun j hj => ?_⟩
    by_cases hji : j = i
    · subst hji; exact hy.wpOp hi ⟨fun _ => Fr.refl _ _, H⟩
    · have := ready_mono hj hji
      rw [H.1] at this
      cases this
  | succ fuel ih =>
    intro listed a w hc hfree hr hy H
    refine ⟨fun h => (by rw [h] at hr; cases hr), fun j hj => ?_⟩
    by_cases hji : j = i
    · subst hji; exact hy.wpOp hi ⟨fun _ => Fr.refl _ _, H⟩
    · have h1 := H.2 j (ready_mono hj hji)
      obtain ⟨hjun, oj, hoj, hall⟩ := mem_ready.1 hj
      have hnot : waitsM anc i j = false := by
        cases hwt : waitsM anc i j with
        | false => rfl
        | true =>
          have h1 := hW listed hc i j hwt fun o ho => by
            rw [hoj] at ho
            injection ho with ho
            subst ho
            exact hall
          have h0 := (mem_ready.1 hr).1
          rcases Nat.lt_or_ge i listed.size with h' | h'
          · simp [h'] at h0 h1; rw [h0] at h1; cases h1
          · simp [Array.getElem?_eq_none h'] at h1
      obtain ⟨hap, hex⟩ := hfree j oj hoj hji hjun hnot
      have h2 := wpOp_put' hoj hap (fun cs b => hsel i oi cs b hi) (fun cs b => hsel j oj cs b hoj) hQ h1
      refine wpOp_mono (fun a' w' h3 => ⟨h3.2.1, ?_⟩) h2
      have hy' : YieldsT S P ops pu oi v a' w' := by
        unfold YieldsT at *
        rw [h3.1.1, h3.1.2]
        rcases hy with ⟨hw, hv⟩ | hy
        · refine .inl ⟨hw, fun w2 h2 => hv w2 ?_⟩
          rcases h2 with h2 | h2
          · exact .inl h2
          · rcases hex with hp | hx
            · exact .inl hp
            · exact .inr ((h3.2.1 hx).trans h2)
        · exact .inr hy
      have hfree' : ∀ k ok, ops[k]? = some ok → k ≠ i → (listed.setIfInBounds j true).getD k true = false → waitsM anc i k = false → oi.apart ops ok = true ∧ (pu = true ∨ ext k = true) := fun k ok hk hki hun hno => by
        refine hfree k ok hk hki ?_ hno
        by_cases hjk : j = k
        · subst hjk; exact hjun
        · rw [getD_set_ne true hjk] at hun; exact hun
      refine ih (listed.setIfInBounds j true) a' w' (hc.set hj) hfree' (ready_mono hr (Ne.symm hji)) hy' ?_
      rw [Array.setIfInBounds_comm _ _ hji]
      exact h3.2.2

/-- may i be taken now? -/
def freeT (anc : List Nat) (ops : Array Oper) (tags : List (Nat × Nat)) (listed : Array Bool) (pu : Bool) (i : Nat) : Bool :=
  match ops[i]? with
  | none => false
  | some oi => (List.range ops.size).all fun j => j == i || listed.getD j true || waitsM anc i j || match ops[j]? with
      | some oj => oi.apart ops oj && (pu || extTag tags j)
      | none => true
theorem freeT_spec {anc : List Nat} {tags : List (Nat × Nat)} {listed : Array Bool} {pu : Bool} {i : Nat} {oi : Oper} (hi : ops[i]? = some oi) (h : freeT anc ops tags listed pu i = true) (j : Nat) (oj : Oper)
    (hj : ops[j]? = some oj) (hne : j ≠ i) (hun : listed.getD j true = false) (hno : waitsM anc i j = false) : oi.apart ops oj = true ∧ (pu = true ∨ extTag tags j = true) := by
  simp only [freeT, hi, List.all_eq_true, List.mem_range] at h
  have h1 := h j (Array.getElem?_eq_some_iff.1 hj).1
  simp only [hj, Bool.or_eq_true, Bool.and_eq_true, beq_iff_eq, hne, false_or, hun, hno, Bool.false_eq_true] at h1
  exact h1

/-- is the order one that serves all? ord: each operation's number and tag -/
def okOrd (anc : List Nat) (md : Region.Mode) (ops : Array Oper) (tags : List (Nat × Nat)) : List (Nat × Nat) → Array Bool → Bool
  | [], listed => (Region.ready md ops listed).isEmpty
  | (i, t) :: rest, listed =>
    (match t with
      | 0 => (Region.ready md ops listed).contains i && freeT anc ops tags listed true i
      | 1 => (Region.ready md ops listed).contains i && freeT anc ops tags listed false i
      | _ => Region.ready md ops listed == [i]) && okOrd anc md ops tags rest (listed.setIfInBounds i true)
def okRegion (md : Region.Mode) (ops : Array Oper) (ord : List (Nat × Nat)) : Bool := Region.noSelect ops && okOrd (ancs md ops.toList []) md ops ord ord (Array.replicate ops.size false) && ord.length == ops.size

/-- THE WALK -/
def wpSt (S : Nat → Prop) (P : Program) (ops : Array Oper) (Q : Exit → Act → World → Prop) : List (Oper × Nat) → Act → World → Prop
  | [], a, w => Q .normal a w
  | (o, t) :: rest, a, w => match t with
    | 0 => ∃ v, YieldsT S P ops true o v a w ∧ wpSt S P ops Q rest (a.put o.dst v) w
    | 1 => ∃ v, YieldsT S P ops false o v a w ∧ wpSt S P ops Q rest (a.put o.dst v) w
    | 2 => if Region.wanted o (yielded ops a.tmps) = true then o.wp P a w (fun a' w' => Fr S w w' ∧ wpSt S P ops Q rest a' w') Q else wpSt S P ops Q rest (a.put o.dst undef) w
    | _ => if Region.wanted o (yielded ops a.tmps) = true then o.wp P a w (wpSt S P ops Q rest) Q else wpSt S P ops Q rest (a.put o.dst undef) w

theorem wpAnyE_of_St {anc : List Nat} (hW : ∀ listed, Closed md ops listed → GoodAnc md ops listed anc) {tags : List (Nat × Nat)} (hs : Region.noSelect ops = true) (hQ : ∀ c a w, ¬ Q (.panic c) a w) :
    ∀ (ord : List (Nat × Nat)) (l : List (Oper × Nat)) (listed : Array Bool) (a : Act) (w : World), (l.map (·.2) = ord.map (·.2)) → (∀ k : Nat, (ord[k]?).bind (fun x : Nat × Nat => ops[x.1]?) = (l[k]?).map (·.1)) →
      (∀ x ∈ ord, extTag tags x.1 = decide (x.2 < 3)) → Closed md ops listed → okOrd anc md ops tags ord listed = true → wpSt S P ops Q l a w → wpAnyE S P md ops (extTag tags) Q ord.length listed a w
  | [], l, listed, a, w, hl, _, _, _, hok, h => by
    have : l = [] := by simpa using hl
    subst this
    simp only [okOrd, List.isEmpty_iff] at hok
    exact ⟨hok, h⟩
  | (i, t) :: ord, l, listed, a, w, hl, hk, hx, hc, hok, h => by
    match l, hl with
    | (o, t') :: l', hl1 =>
      simp only [List.map_cons, List.cons.injEq] at hl1
      obtain ⟨rfl, hl2⟩ := hl1
      have hi : ops[i]? = some o := by simpa using hk 0
      have hk' : ∀ k : Nat, (ord[k]?).bind (fun x : Nat × Nat => ops[x.1]?) = (l'[k]?).map (·.1) := fun k => by simpa using hk (k + 1)
      have hx' : ∀ x ∈ ord, extTag tags x.1 = decide (x.2 < 3) := fun x hxm => hx x (List.mem_cons_of_mem _ hxm)
      have hxi : extTag tags i = decide (t' < 3) := hx (i, t') List.mem_cons_self
      have quiet : ∀ pu : Bool, ((Region.ready md ops listed).contains i && freeT anc ops tags listed pu i) = true → okOrd anc md ops tags ord (listed.setIfInBounds i true) = true →
          (∃ v, YieldsT S P ops pu o v a w ∧ wpSt S P ops Q l' (a.put o.dst v) w) → wpAnyE S P md ops (extTag tags) Q (ord.length + 1) listed a w := by
        rintro pu h1 h2 ⟨v, hy, hr⟩
        simp only [Bool.and_eq_true] at h1
        have hri : i ∈ Region.ready md ops listed := by simpa using h1.1
        exact wpAnyE_first hW hi (Region.noSelect_spec hs) hQ ord.length listed a w hc (freeT_spec hi h1.2) hri hy
          (wpAnyE_of_St hW hs hQ ord l' _ _ _ hl2 hk' hx' (hc.set hri) h2 hr)
      have loud : ∀ K : Act → World → Prop, (∀ a' w', K a' w' → (extTag tags i = true → Fr S w w') ∧ wpSt S P ops Q l' a' w') →
          (Region.ready md ops listed == [i]) = true → okOrd anc md ops tags ord (listed.setIfInBounds i true) = true →
          (if Region.wanted o (yielded ops a.tmps) = true then o.wp P a w K Q else wpSt S P ops Q l' (a.put o.dst undef) w) → wpAnyE S P md ops (extTag tags) Q (ord.length + 1) listed a w := by
        intro K hK h1 h2 h3
        have hri : Region.ready md ops listed = [i] := by simpa using h1
        refine ⟨fun h => (by rw [h] at hri; cases hri), fun j hj => ?_⟩
        rw [hri] at hj
        obtain rfl : j = i := by simpa using hj
        have hmem : j ∈ Region.ready md ops listed := by rw [hri]; exact List.mem_cons_self
        unfold wpOp
        simp only [hi]
        split
        · rename_i hw
          rw [if_pos hw] at h3
          exact .inl (Oper.wp_mono (fun a' w' h' => ⟨(hK a' w' h').1, wpAnyE_of_St hW hs hQ ord l' _ _ _ hl2 hk' hx' (hc.set hmem) h2 (hK a' w' h').2⟩) h3)
        · rename_i hw
          rw [if_neg hw] at h3
          exact ⟨fun _ => Fr.refl _ _, wpAnyE_of_St hW hs hQ ord l' _ _ _ hl2 hk' hx' (hc.set hmem) h2 h3⟩
      match t', hok, h, hxi, hx with
      | 0, hok, h, _, _ =>
        simp only [okOrd, Bool.and_eq_true] at hok
        exact quiet true (by simpa using hok.1) hok.2 h
      | 1, hok, h, _, _ =>
        simp only [okOrd, Bool.and_eq_true] at hok
        exact quiet false (by simpa using hok.1) hok.2 h
      | 2, hok, h, _, _ =>
        simp only [okOrd, Bool.and_eq_true] at hok
        exact loud _ (fun a' w' h' => ⟨fun _ => h'.1, h'.2⟩) hok.1 hok.2 h
      | t + 3, hok, h, hxi, _ =>
        simp only [okOrd, Bool.and_eq_true] at hok
        have : extTag tags i = false := by rw [hxi]; simp
        exact loud _ (fun a' w' h' => ⟨fun he => (by rw [this] at he; cases he), h'⟩) hok.1 hok.2 h

/-- no panic -/
def NoPan (Q : Exit → Act → World → Prop) : Exit → Act → World → Prop
  | .panic _, _, _ => False
  | e, a, w => Q e a w

/-- **a region that draws its order, walked in the order 'ord'** -/
theorem wp_region_st {id : Nat} {a : Act} {w : World} (ord : List (Nat × Nat)) (l : List (Oper × Nat)) {lo : List Oper} (hm : P.follows .mixedOrders = true)
    (hl : l = ord.map fun x => (lo.getD x.1 default, x.2)) (hB : (okRegion .any lo.toArray ord && ord.all fun x => decide (x.1 < lo.length) && (extTag ord x.1 == decide (x.2 < 3))) = true)
    (h : wpSt S P lo.toArray (NoPan Q) l a w.drew) : (Code.region id lo.toArray true).wp P Q a w := by
  simp only [okRegion, Bool.and_eq_true, beq_iff_eq, List.all_eq_true, decide_eq_true_eq] at hB
  obtain ⟨⟨⟨hs, hok⟩, hlen⟩, hall⟩ := hB
  have h1 : (Code.region id lo.toArray true).wp P (NoPan Q) a w := by
    refine wp_region_any hm (wpAny_of_E (S := S) _ _ _ _ (ext := extTag ord) ?_)
    rw [← hlen]
    refine wpAnyE_of_St (fun _ hc => ancs_ok hc) hs (fun c a w h => h) ord l _ _ _ (by rw [hl, List.map_map]; rfl) ?_ (fun x hx => (hall x hx).2) ?_ (by simpa [hlen] using hok) h
    · intro k
      rw [hl]
      simp only [List.getElem?_map, Option.map_map]
      cases hk : ord[k]? with
      | none => rfl
      | some x =>
        have hx := (hall x (List.mem_of_getElem? hk)).1
        simp [hx]
    · intro j o ho hj
      exfalso
      simp only [Array.getD_eq_getD_getElem?, Array.getElem?_replicate] at hj
      split at hj <;> simp at hj
  refine Code.wp_mono ?_ h1
  intro e a w h
  cases e <;> first | exact h | exact h.elim
end

/-- the walk, over the numbers -/
def wpO (S : Nat → Prop) (P : Program) (lo : List Oper) (Q : Exit → Act → World → Prop) (ord : List (Nat × Nat)) (a : Act) (w : World) : Prop :=
  wpSt S P lo.toArray (NoPan Q) (ord.map fun x => (lo.getD x.1 default, x.2)) a w

theorem wp_region_o (S : Nat → Prop) {P : Program} {Q : Exit → Act → World → Prop} {id : Nat} {a : Act} {w : World} (ord : List (Nat × Nat)) {lo : List Oper} (hm : P.follows .mixedOrders = true)
    (hB : (okRegion .any lo.toArray ord && ord.all fun x => decide (x.1 < lo.length) && (extTag ord x.1 == decide (x.2 < 3))) = true)
    (h : wpO S P lo Q ord a w.drew) : (Code.region id lo.toArray true).wp P Q a w := wp_region_st (S := S) ord _ hm rfl hB h

section
variable {S : Nat → Prop} {P : Program} {lo : List Oper} {Q : Exit → Act → World → Prop} {a : Act} {w : World} {rest : List (Nat × Nat)} {o : Oper} {i : Nat}
theorem getD_of (ho : lo[i]? = some o) : lo.getD i default = o := by simp [List.getD, ho]
theorem wpO_pure {v : Value} (ho : lo[i]? = some o) (hw : Region.wanted o (yielded lo.toArray a.tmps) = true) (hy : ∀ w', (execOp a.eval o).run P w' = .ok (.value v) w') (h : wpO S P lo Q rest (a.put o.dst v) w) : wpO S P lo Q ((i, 0) :: rest) a w := by
  unfold wpO
  simp only [List.map_cons, getD_of ho]
  exact ⟨v, .inl ⟨hw, fun w' _ => .inl (hy w')⟩, h⟩
theorem wpO_read {v : Value} (ho : lo[i]? = some o) (hw : Region.wanted o (yielded lo.toArray a.tmps) = true) (hy : ∀ w', Fr S w w' → (∀ b o, b < w.heap.size → ¬ S b → w'.cell? ⟨b, o, none⟩ = w.cell? ⟨b, o, none⟩) → (execOp a.eval o).run P w' = .ok (.value v) w') (h : wpO S P lo Q rest (a.put o.dst v) w) : wpO S P lo Q ((i, 1) :: rest) a w := by
  unfold wpO
  simp only [List.map_cons, getD_of ho]
  exact ⟨v, .inl ⟨hw, fun w' h' => .inl (hy w' (h'.resolve_left (by simp)) (fun b o hb hs => (h'.resolve_left (by simp)).cell (p := ⟨b, o, none⟩) hb hs))⟩, h⟩
/-- a call that only reads -/
theorem wpO_call {v : Value} (f : Nat) (args : Array Value) (ho : lo[i]? = some o) (hw : Region.wanted o (yielded lo.toArray a.tmps) = true) (hr : ∀ w', (execOp a.eval o).run P w' = .ok (.enter f args) w')
    (hc : ∀ w', Fr S w w' → Calls P f args w' fun e w'' => e = .returned v ∧ w'' = w') (h : wpO S P lo Q rest (a.put o.dst v) w) : wpO S P lo Q ((i, 1) :: rest) a w := by
  unfold wpO
  simp only [List.map_cons, getD_of ho]
  exact ⟨v, .inl ⟨hw, fun w' h' => .inr ⟨f, args, hr w', hc w' (h'.resolve_left (by simp))⟩⟩, h⟩
theorem wpO_skip {t : Nat} (ht : t < 2) (ho : lo[i]? = some o) (hw : Region.wanted o (yielded lo.toArray a.tmps) = false) (h : wpO S P lo Q rest (a.put o.dst undef) w) : wpO S P lo Q ((i, t) :: rest) a w := by
  unfold wpO
  simp only [List.map_cons, getD_of ho]
  match t, ht with
  | 0, _ => exact ⟨undef, .inr ⟨hw, rfl⟩, h⟩
  | 1, _ => exact ⟨undef, .inr ⟨hw, rfl⟩, h⟩
theorem wpO_loudE (ho : lo[i]? = some o) (h : ∀ K : Act → World → Prop, (∀ a' w', Fr S w w' ∧ wpO S P lo Q rest a' w' → K a' w') → if Region.wanted o (yielded lo.toArray a.tmps) = true then o.wp P a w K (NoPan Q) else K (a.put o.dst undef) w) :
    wpO S P lo Q ((i, 2) :: rest) a w := by
  unfold wpO
  simp only [List.map_cons, getD_of ho]
  have h1 := h _ (fun _ _ h => h)
  show if _ then _ else _
  split
  · rename_i hw
    rw [if_pos hw] at h1
    exact h1
  · rename_i hw
    rw [if_neg hw] at h1
    exact h1.2
theorem wpO_loud (ho : lo[i]? = some o) (h : ∀ K : Act → World → Prop, (∀ a' w', wpO S P lo Q rest a' w' → K a' w') → if Region.wanted o (yielded lo.toArray a.tmps) = true then o.wp P a w K (NoPan Q) else K (a.put o.dst undef) w) :
    wpO S P lo Q ((i, 3) :: rest) a w := by
  unfold wpO
  simp only [List.map_cons, getD_of ho]
  exact h _ (fun _ _ h => h)
theorem wpO_nil (h : Q .normal a w) : wpO S P lo Q [] a w := h
attribute [irreducible] wpO
end
end Go.Proofs.Ytohnchkoldbpcaa.OS

/- A region that draws its order, walked once in an order of our own: the words for regions whose loud operations of tag 2 leave all old blocks as they are. -/
namespace Go.Proofs.Ytohnchkoldbpcaa
open Go Go.RowKit

abbrev NoPan := OS.NoPan
/-- the walk, over the numbers -/
def wpO (P : Program) (lo : List Oper) (Q : Exit → Act → World → Prop) (ord : List (Nat × Nat)) (a : Act) (w : World) : Prop := OS.wpO No P lo Q ord a w
theorem wp_region_o {P : Program} {Q : Exit → Act → World → Prop} {id : Nat} {a : Act} {w : World} (ord : List (Nat × Nat)) {lo : List Oper} (hm : P.follows .mixedOrders = true)
    (hB : (OS.okRegion .any lo.toArray ord && ord.all fun x => decide (x.1 < lo.length) && (OS.extTag ord x.1 == decide (x.2 < 3))) = true)
    (h : wpO P lo Q ord a w.drew) : (Code.region id lo.toArray true).wp P Q a w := OS.wp_region_o No ord hm hB h
section
variable {P : Program} {lo : List Oper} {Q : Exit → Act → World → Prop} {a : Act} {w : World} {rest : List (Nat × Nat)} {o : Oper} {i : Nat}
theorem wpO_pure {v : Value} (ho : lo[i]? = some o) (hw : Region.wanted o (yielded lo.toArray a.tmps) = true) (hy : ∀ w', (execOp a.eval o).run P w' = .ok (.value v) w') (h : wpO P lo Q rest (a.put o.dst v) w) : wpO P lo Q ((i, 0) :: rest) a w := OS.wpO_pure ho hw hy h
theorem wpO_read {v : Value} (ho : lo[i]? = some o) (hw : Region.wanted o (yielded lo.toArray a.tmps) = true) (hy : ∀ w', Fr No w w' → (∀ b o, b < w.heap.size → w'.cell? ⟨b, o, none⟩ = w.cell? ⟨b, o, none⟩) → (execOp a.eval o).run P w' = .ok (.value v) w') (h : wpO P lo Q rest (a.put o.dst v) w) : wpO P lo Q ((i, 1) :: rest) a w :=
  OS.wpO_read ho hw (fun w' h1 h2 => hy w' h1 fun b o hb => h2 b o hb fun hf => hf) h
theorem wpO_call {v : Value} (f : Nat) (args : Array Value) (ho : lo[i]? = some o) (hw : Region.wanted o (yielded lo.toArray a.tmps) = true) (hr : ∀ w', (execOp a.eval o).run P w' = .ok (.enter f args) w')
    (hc : ∀ w', Fr No w w' → Calls P f args w' fun e w'' => e = .returned v ∧ w'' = w') (h : wpO P lo Q rest (a.put o.dst v) w) : wpO P lo Q ((i, 1) :: rest) a w := OS.wpO_call f args ho hw hr hc h
theorem wpO_skip {t : Nat} (ht : t < 2) (ho : lo[i]? = some o) (hw : Region.wanted o (yielded lo.toArray a.tmps) = false) (h : wpO P lo Q rest (a.put o.dst undef) w) : wpO P lo Q ((i, t) :: rest) a w := OS.wpO_skip ht ho hw h
theorem wpO_loudE (ho : lo[i]? = some o) (h : ∀ K : Act → World → Prop, (∀ a' w', Fr No w w' ∧ wpO P lo Q rest a' w' → K a' w') → if Region.wanted o (yielded lo.toArray a.tmps) = true then o.wp P a w K (NoPan Q) else K (a.put o.dst undef) w) :
    wpO P lo Q ((i, 2) :: rest) a w := OS.wpO_loudE ho h
theorem wpO_loud (ho : lo[i]? = some o) (h : ∀ K : Act → World → Prop, (∀ a' w', wpO P lo Q rest a' w' → K a' w') → if Region.wanted o (yielded lo.toArray a.tmps) = true then o.wp P a w K (NoPan Q) else K (a.put o.dst undef) w) :
    wpO P lo Q ((i, 3) :: rest) a w := OS.wpO_loud ho h
theorem wpO_nil (h : Q .normal a w) : wpO P lo Q [] a w := OS.wpO_nil h
attribute [irreducible] wpO
end
end Go.Proofs.Ytohnchkoldbpcaa

/- wire: what the methods of Net do. -/
namespace Go.Proofs.Ytohnchkoldbpcaa

abbrev Cuts := List ((Int × Int) × Bool)
def NetAt (w : World) (p m : Nat) (l : List Msg) (C : Cuts) : Prop :=
  ∃ A c, Blk w p 93 [.slice A l.length c, .map (some m)] ∧ Sl w 26 8 A l.length (l.flatMap Msg.vals) ∧ l.length ≤ c ∧ MapAt w m encLink (menc Value.bool C)

section
variable {w w' : World} {p m : Nat} {l : List Msg} {C : Cuts}
theorem NetAt.fr {S : Nat → Prop} (h : NetAt w p m l C) (hf : Fr S w w') (hp : ¬ S p) (hm : ¬ S m) (hS : ∀ (b : Nat) cur fr, w.heap[b]? = some (Obj.cells cur 26 fr) → ¬ S b) : NetAt w' p m l C := by
  obtain ⟨A, c, hB, hS', hc, hM⟩ := h
  exact ⟨A, c, hB.fr hf hp, hS'.fr hf hS, hc, hM.fr hf hm⟩
theorem NetAt.fr0 (h : NetAt w p m l C) (hf : Fr No w w') : NetAt w' p m l C := h.fr hf (fun h => h) (fun h => h) fun _ _ _ _ h => h
theorem NetAt.alloc (h : NetAt w p m l C) (o : Obj) : NetAt (w.alloc o) p m l C := h.fr0 ((Fr.refl _ _).alloc _)
theorem NetAt.drew (h : NetAt w p m l C) : NetAt w.drew p m l C := h
theorem NetAt.lt (h : NetAt w p m l C) : p < w.heap.size := by obtain ⟨A, c, hB, _⟩ := h; exact hB.lt
theorem NetAt.ltm (h : NetAt w p m l C) : m < w.heap.size := by obtain ⟨A, c, _, _, _, hM⟩ := h; exact hM.lt
end

theorem msg_info : (Try.prog.info? 26).map (fun i => (i.zero, i.size, i.bytes)) = some (some (.agg #[.int .i64 0, .int .i64 0, .int .i64 0, .int .i64 0, .int .i64 0, .int .i64 0, .int .i64 0, .string ByteArray.empty]), 8, 72) := by kernel_rfl

theorem vals_len (l : List Msg) : (l.flatMap Msg.vals).length = l.length * 8 := by
  induction l with
  | nil => rfl
  | cons m l ih => simp only [List.flatMap_cons, List.length_append, ih, List.length_cons, List.length_nil]; omega
theorem vals_snoc (l : List Msg) (m : Msg) : (l ++ [m]).flatMap Msg.vals = l.flatMap Msg.vals ++ m.vals := by simp [List.flatMap_append]

set_option maxHeartbeats 400000 in
theorem add_full (p m : Nat) (l : List Msg) (C : Cuts) (msg : Msg) (w : World) (h : NetAt w p m l C) (hn : 64 ≤ l.length) :
    Calls Try.prog 50 #[.pointer (some ⟨p, 0, none⟩), msg.val] w fun e w' => e = .returned (.int .i64 4) ∧ Fr No w w' := by
  obtain ⟨A, c, hB, _, _, _⟩ := h
  have h0 : w.cell? ⟨p, 0, none⟩ = some (.slice A l.length c) := hB.cell 0
  have lg : p < w.heap.size := hB.lt
  have hn' : (64 : Int) ≤ (l.length : Int) := by omega
  clear hB
  go_enter Try.func50, Try.ntmps50
  go_wp2
  go_ret
  exact ⟨rfl, (Fr.refl _ _).alloc _⟩

set_option maxRecDepth 100000 in
set_option maxHeartbeats 1000000 in
theorem add_room (p m : Nat) (l : List Msg) (C : Cuts) (msg : Msg) (w : World) (h : NetAt w p m l C) (hn : l.length < 64) :
    Calls Try.prog 50 #[.pointer (some ⟨p, 0, none⟩), msg.val] w fun e w' => e = .returned (.int .i64 0) ∧ NetAt w' p m (l ++ [msg]) C ∧ Fr (· = p) w w' := by
  obtain ⟨A, c, hB, hS, hc, hM⟩ := h
  have h0 : w.cell? ⟨p, 0, none⟩ = some (.slice A l.length c) := hB.cell 0
  have hf0 := hB.frozen 0
  have lg : p < w.heap.size := hB.lt
  have hn' : (l.length : Int) < (64 : Int) := by omega
  have hn2 : (0 : Int) ≤ (l.length : Int) := by omega
  have hn3 : (l.length : Int) ≤ (c : Int) := by omega
  obtain ⟨i0, hi0, hz0, hz1, hz2⟩ := info_parts msg_info
  go_enter Try.func50, Try.ntmps50
  go_wp2
  obtain ⟨W0, hW0⟩ : ∃ W0, W0 = w.alloc (Obj.cells msg.vals.toArray 26) := ⟨_, rfl⟩
  have hB0 : Blk W0 p 93 [.slice A l.length c, .map (some m)] := by subst hW0; exact hB.alloc _
  have hBm : Blk W0 w.heap.size 26 msg.vals := by subst hW0; exact Blk.new _ _ _
  have hS0 : Sl W0 26 8 A l.length (l.flatMap Msg.vals) := by subst hW0; exact hS.alloc _
  have hM0 : MapAt W0 m encLink (menc Value.bool C) := by subst hW0; exact hM.alloc _
  have hF0 : Fr (· = p) w W0 := by subst hW0; exact (Fr.refl _ _).alloc _
  have h0' : W0.cell? ⟨p, 0, none⟩ = some (.slice A l.length c) := hB0.cell 0
  have hf0' := hB0.frozen 0
  have l0 := hBm.cell 0; have l1 := hBm.cell 1; have l2 := hBm.cell 2; have l3 := hBm.cell 3; have l4 := hBm.cell 4; have l5 := hBm.cell 5; have l6 := hBm.cell 6; have l7 := hBm.cell 7
  simp only [List.getElem?_cons_zero, List.getElem?_cons_succ] at l0 l1 l2 l3 l4 l5 l6 l7
  have lW : w.heap.size < W0.heap.size := hBm.lt
  have lW2 : p < W0.heap.size := hB0.lt
  rw [← hW0]
  clear hW0 h0 hf0
  refine wp_region_o [(0, 0), (1, 0), (2, 0), (3, 0), (5, 0), (6, 0), (7, 0), (10, 0), (11, 0), (12, 0), (4, 1), (8, 1), (9, 1), (13, 1), (14, 1), (15, 0), (16, 1), (17, 2), (18, 2), (19, 0), (20, 0), (21, 3)] (by kernel_rfl) (by kernel_rfl) ?_
  repeat (first
    | (apply wpO_pure rfl rfl; (focus (intro w'; go_simp; (try rfl); done)); try simp only [Act.put, List.setIfInBounds_toArray, List.set_cons_zero, List.set_cons_succ])
    | (apply wpO_read rfl rfl; (focus (intro w' hf' hs'; (try simp only [World.size_drew, World.cell?_drew, World.size_alloc, World.size_setCell] at hs'); go_simp; (try rfl); done)); try simp only [Act.put, List.setIfInBounds_toArray, List.set_cons_zero, List.set_cons_succ])
    | (apply wpO_skip (by decide) rfl rfl; try simp only [Act.put, List.setIfInBounds_toArray, List.set_cons_zero, List.set_cons_succ]))
  refine wpO_loudE rfl fun K hK => ?_
  go_simp
  refine hK _ _ ⟨by (repeat (first | exact Fr.refl _ _ | assumption | refine Fr.drew ?_ | refine Fr.drewL ?_ | refine Fr.alloc ?_ _)), ?_⟩
  clear hK K
  refine wpO_loudE rfl fun K hK => ?_
  refine step_append_new rfl _ _ 30 rfl 26 i0 _ 8 72 Try.underlying30 hi0 hz0 hz1 hz2 rfl A l.length l.length (l.flatMap Msg.vals) rfl (hS0.alloc _).drew (some ⟨W0.heap.size, 0, none⟩) 1 1 26 msg.vals rfl (Sl.of_new W0 26 8 1 msg.vals.toArray msg.vals rfl rfl).drew (by omega) (by omega) (by simp only [maxLen]; omega) (by omega) ?_
  intro cap cur g1 g2 g3 g4
  refine hK _ _ ⟨by (repeat (first | exact Fr.refl _ _ | assumption | refine Fr.drew ?_ | refine Fr.drewL ?_ | refine Fr.alloc ?_ _)), ?_⟩
  clear hK K
  try simp only [Act.put, List.setIfInBounds_toArray, List.set_cons_zero, List.set_cons_succ]
  repeat (first
    | (apply wpO_pure rfl rfl; (focus (intro w'; go_simp; (try rfl); done)); try simp only [Act.put, List.setIfInBounds_toArray, List.set_cons_zero, List.set_cons_succ])
    | (apply wpO_read rfl rfl; (focus (intro w' hf' hs'; (try simp only [World.size_drew, World.cell?_drew, World.size_alloc, World.size_setCell] at hs'); go_simp; (try rfl); done)); try simp only [Act.put, List.setIfInBounds_toArray, List.set_cons_zero, List.set_cons_succ])
    | (apply wpO_skip (by decide) rfl rfl; try simp only [Act.put, List.setIfInBounds_toArray, List.set_cons_zero, List.set_cons_succ]))
  refine wpO_loud rfl fun K hK => ?_
  go_simp
  refine hK _ _ (wpO_nil ?_)
  clear hK K
  go_wp2
  go_ret
  have hb2 := ((hB0.set_ 0 (.slice (some ⟨W0.heap.size + 1, 0, none⟩) (l.length + 1) cap)).alloc (Obj.cells msg.vals.toArray 26)).alloc (.cells cur 26)
  have hs2 := Sl.of_new ((W0.setCell ⟨p, 0, none⟩ (.slice (some ⟨W0.heap.size + 1, 0, none⟩) (l.length + 1) cap)).alloc (Obj.cells msg.vals.toArray 26)) 26 8 (l.length + 1) cur _ (by rw [← vals_snoc, vals_len]; simp) g4
  have hm2 := ((hM0.far (p := ⟨p, 0, none⟩) (hM0.ne hB0).symm (.slice (some ⟨W0.heap.size + 1, 0, none⟩) (l.length + 1) cap)).alloc (Obj.cells msg.vals.toArray 26)).alloc (.cells cur 26)
  refine ⟨rfl, ⟨some ⟨W0.heap.size + 1, 0, none⟩, cap, ?_, ?_, ?_, hm2⟩, ?_⟩
  · simp only [List.length_append, List.length_cons, List.length_nil, Nat.zero_add]
    exact hb2.drew.drew
  · simp only [World.size_alloc, World.size_setCell] at hs2
    simp only [List.length_append, List.length_cons, List.length_nil, Nat.zero_add, vals_snoc]
    exact hs2.drew.drew
  · simpa using g1
  · refine Fr.drew (Fr.drew (Fr.alloc (Fr.alloc (Fr.setCell hF0 (.inl rfl) _) _) _))
end Go.Proofs.Ytohnchkoldbpcaa

/- wire: the methods of Net that only look, and those that cut and join links. -/
namespace Go.Proofs.Ytohnchkoldbpcaa
open Go Go.RowKit Go.Proofs

theorem ret_int {k : IntKind} {a b : Int} (h : a = b) : Ending.returned (.int k a) = .returned (.int k b) := by rw [h]

theorem len_any (p m : Nat) (l : List Msg) (C : Cuts) (w : World) (h : NetAt w p m l C) :
    Calls Try.prog 19 #[.pointer (some ⟨p, 0, none⟩)] w fun e w' => e = .returned (.int .i64 l.length) ∧ Fr No w w' := by
  obtain ⟨A, c, hB, _, _, _⟩ := h
  have h0 : w.cell? ⟨p, 0, none⟩ = some (.slice A l.length c) := hB.cell 0
  clear hB
  go_enter Try.func19, Try.ntmps19
  go_wp2
  go_ret
  exact ⟨rfl, Fr.refl _ _⟩
theorem len_nil (w : World) :
    Calls Try.prog 19 #[.pointer none] w fun e w' => e = .returned (.int .i64 0) ∧ Fr No w w' := by
  go_enter Try.func19, Try.ntmps19
  go_wp2
  go_ret
  exact ⟨rfl, Fr.refl _ _⟩

theorem at_nil (i : Int) (w : World) :
    Calls Try.prog 48 #[.pointer none, .int .i64 i] w fun e w' => e = .returned (.int .i64 2) ∧ Fr No w w' := by
  go_enter Try.func48, Try.ntmps48
  go_wp2
  go_ret
  exact ⟨rfl, Fr.refl _ _⟩
def inL (i : Int) (n : Nat) : Bool := decide (0 ≤ i) && decide (i < n)
def atE (i : Int) (n : Nat) : Int := if inL i n then 0 else 30
theorem at_any (p m : Nat) (l : List Msg) (C : Cuts) (i : Int) (w : World) (h : NetAt w p m l C) :
    Calls Try.prog 48 #[.pointer (some ⟨p, 0, none⟩), .int .i64 i] w fun e w' => e = .returned (.int .i64 (atE i l.length)) ∧ Fr No w w' := by
  obtain ⟨A, c, hB, _, _, _⟩ := h
  have h0 : w.cell? ⟨p, 0, none⟩ = some (.slice A l.length c) := hB.cell 0
  clear hB
  by_cases h1 : i < 0
  · have e : atE i l.length = 30 := by simp [atE, inL]; omega
    rw [e]; clear e
    go_enter Try.func48, Try.ntmps48
    go_wp2
    go_ret
    exact ⟨rfl, Fr.refl _ _⟩
  · by_cases h2 : i < l.length
    · have e : atE i l.length = 0 := by simp [atE, inL]; omega
      rw [e]; clear e
      go_enter Try.func48, Try.ntmps48
      go_wp2
      go_ret
      exact ⟨rfl, Fr.refl _ _⟩
    · have e : atE i l.length = 30 := by simp [atE, inL]; omega
      rw [e]; clear e
      go_enter Try.func48, Try.ntmps48
      go_wp2
      go_ret
      exact ⟨rfl, Fr.refl _ _⟩

theorem send_nil (msg : Msg) (w : World) :
    Calls Try.prog 47 #[.pointer none, msg.val] w fun e w' => e = .returned (.int .i64 2) ∧ Fr No w w' := by
  go_enter Try.func47, Try.ntmps47
  go_wp2
  go_ret
  exact ⟨rfl, (Fr.refl _ _).alloc _⟩
theorem send_wrong (p : Nat) (msg : Msg) (w : World) (hr : rightB msg = false) :
    Calls Try.prog 47 #[.pointer (some ⟨p, 0, none⟩), msg.val] w fun e w' => e = .returned (.int .i64 1) ∧ Fr No w w' := by
  go_enter Try.func47, Try.ntmps47
  go_wp2_with (go_at_call 52; refine (msgRight_any msg _).mono ?_; rintro e w1 ⟨rfl, hf1⟩)
  go_ret
  exact ⟨rfl, ((Fr.refl _ _).alloc _).trans hf1⟩
def sendE (msg : Msg) (l : List Msg) : Int := if rightB msg then (if 64 ≤ l.length then 4 else 0) else 1
def sendL (msg : Msg) (l : List Msg) : List Msg := if rightB msg then (if 64 ≤ l.length then l else l ++ [msg]) else l
theorem send_any (p m : Nat) (l : List Msg) (C : Cuts) (msg : Msg) (w : World) (h : NetAt w p m l C) :
    Calls Try.prog 47 #[.pointer (some ⟨p, 0, none⟩), msg.val] w fun e w' => e = .returned (.int .i64 (sendE msg l)) ∧ NetAt w' p m (sendL msg l) C ∧ Fr (· = p) w w' := by
  cases hr : rightB msg with
  | false =>
    have e1 : sendE msg l = 1 := by simp [sendE, hr]
    have e2 : sendL msg l = l := by simp [sendL, hr]
    rw [e1, e2]
    refine (send_wrong p msg w hr).mono ?_
    rintro e w' ⟨rfl, hf⟩
    exact ⟨rfl, h.fr0 hf, hf.any _⟩
  | true =>
    by_cases hn : 64 ≤ l.length
    · have e1 : sendE msg l = 4 := by simp [sendE, hr, hn]
      have e2 : sendL msg l = l := by simp [sendL, hr, hn]
      rw [e1, e2]
      have HN := Lib.hid hn
      have H := Lib.hid h
      clear hn h e1 e2
      go_enter Try.func47, Try.ntmps47
      go_wp2_with (first
        | (go_at_call 52; refine (msgRight_any msg _).mono ?_; rintro e w1 ⟨rfl, hf1⟩; have hc1 := hf1.cells; have hz1 : w.heap.size < w1.heap.size := by have := hf1.size; simp at this; omega)
        | (go_at_call 50; refine (add_full p m l C msg _ ((H.out.alloc _).fr0 hf1) HN.out).mono ?_; rintro e w2 ⟨rfl, hf2⟩))
      go_ret
      exact ⟨rfl, ((H.out.alloc _).fr0 hf1).fr0 hf2, ((((Fr.refl _ _).alloc _).trans hf1).trans hf2).any _⟩
    · have e1 : sendE msg l = 0 := by simp [sendE, hr, hn]
      have e2 : sendL msg l = l ++ [msg] := by simp [sendL, hr, hn]
      rw [e1, e2]
      have HN := Lib.hid hn
      have H := Lib.hid h
      clear hn h e1 e2
      go_enter Try.func47, Try.ntmps47
      go_wp2_with (first
        | (go_at_call 52; refine (msgRight_any msg _).mono ?_; rintro e w1 ⟨rfl, hf1⟩; have hc1 := hf1.cells; have hz1 : w.heap.size < w1.heap.size := by have := hf1.size; simp at this; omega)
        | (go_at_call 50; refine (add_room p m l C msg _ ((H.out.alloc _).fr0 hf1) (Nat.lt_of_not_le HN.out)).mono ?_; rintro e w2 ⟨rfl, hn2, hf2⟩))
      go_ret
      exact ⟨rfl, hn2, ((((Fr.refl _ _).alloc _).trans hf1).any _).trans hf2⟩

/-! ### links that are cut, and joined -/
def turnE (a b : Int) : Int := if linkB (min a b) (max a b) then 0 else 1
def turnC (C : Cuts) (a b : Int) (c : Bool) : Cuts := if linkB (min a b) (max a b) then mput (min a b, max a b) c C else C
end Go.Proofs.Ytohnchkoldbpcaa

namespace Go.Proofs.Ytohnchkoldbpcaa
open Go Go.RowKit Go.Proofs
/-! ### may a message come? -/
def cutV (C : Cuts) (msg : Msg) : Bool := (mget (min msg.frm msg.to_, max msg.frm msg.to_) C).getD false
theorem bool_info : (Try.prog.info? 4).map (fun i => (i.zero, i.size, i.bytes)) = some (some (.bool false), 1, 1) := by kernel_rfl
set_option maxRecDepth 100000 in
set_option maxHeartbeats 1000000 in
theorem open_any (p m : Nat) (l : List Msg) (C : Cuts) (msg : Msg) (w : World) (h : NetAt w p m l C) :
    Calls Try.prog 51 #[.pointer (some ⟨p, 0, none⟩), msg.val] w fun e w' => e = .returned (.bool (!cutV C msg)) ∧ Fr No w w' := by
  obtain ⟨i0, hi0, hz0, hz1, hz2⟩ := info_parts bool_info
  have hlook : ∀ w', MapAt w' m encLink (menc Value.bool C) → (Instr.lookup 91 (.map (some m)) (.agg #[.int .i64 (min msg.frm msg.to_), .int .i64 (max msg.frm msg.to_)]) false).run Try.prog w' = .ok (.bool (cutV C msg)) w' := fun w' hw' => by
    have := run_lookup link_law (t := 91) (et := 4) (by kernel_rfl) hi0 hz0 hw' (min msg.frm msg.to_, max msg.frm msg.to_) false
    rw [mget_menc] at this
    unfold cutV
    rw [this]
    cases mget (min msg.frm msg.to_, max msg.frm msg.to_) C <;> rfl
  have H := Lib.hid h
  have HL := Lib.hid hlook
  clear h hlook
  go_enter Try.func51, Try.ntmps51
  go_wp2
  have H2 := H.out.alloc (Obj.cells msg.vals.toArray 26)
  obtain ⟨A, cp, hB, hS, hc, hM⟩ := H2
  have hL2 := Blk.new w 26 msg.vals
  have h1 := hB.cell 1
  have l0 := hL2.cell 0
  have l1 := hL2.cell 1
  simp only [List.getElem?_cons_zero, List.getElem?_cons_succ] at h1 l0 l1
  have z0 := hB.lt
  have z1 := hL2.lt
  have z2 := H.out.lt
  refine wp_region_o [(0, 0), (1, 0), (2, 0), (4, 0), (6, 0), (3, 1), (5, 1), (7, 1), (8, 2), (9, 1), (10, 0), (11, 0)] (by kernel_rfl) (by kernel_rfl) ?_
  repeat (first
    | (apply wpO_pure rfl rfl; (focus (intro w'; go_simp; (try rfl); done)); try simp only [Act.put, List.setIfInBounds_toArray, List.set_cons_zero, List.set_cons_succ])
    | (apply wpO_read rfl rfl; (focus (intro w' hf' hs'; (try simp only [World.size_drew, World.cell?_drew, World.size_alloc, World.size_setCell] at hs'); go_simp; (try rfl); done)); try simp only [Act.put, List.setIfInBounds_toArray, List.set_cons_zero, List.set_cons_succ])
    | (apply wpO_skip (by decide) rfl rfl; try simp only [Act.put, List.setIfInBounds_toArray, List.set_cons_zero, List.set_cons_succ]))
  refine wpO_loudE rfl fun K hK => ?_
  go_simp
  refine (linkOf_any _ _ _).mono ?_
  rintro e w1 ⟨rfl, hf1⟩
  refine hK _ _ ⟨hf1, ?_⟩
  clear hK K
  apply wpO_read rfl rfl
  (focus (intro w' hf' hs'; have hrd := HL.out w' ((hM.drew.fr hf1 (fun h => h)).fr hf' (fun h => h)); go_simp; (try rfl); done))
  try simp only [Act.put, List.setIfInBounds_toArray, List.set_cons_zero, List.set_cons_succ]
  repeat (first
    | (apply wpO_pure rfl rfl; (focus (intro w'; go_simp; (try rfl); done)); try simp only [Act.put, List.setIfInBounds_toArray, List.set_cons_zero, List.set_cons_succ])
    | (apply wpO_read rfl rfl; (focus (intro w' hf' hs'; (try simp only [World.size_drew, World.cell?_drew, World.size_alloc, World.size_setCell] at hs'); go_simp; (try rfl); done)); try simp only [Act.put, List.setIfInBounds_toArray, List.set_cons_zero, List.set_cons_succ])
    | (apply wpO_skip (by decide) rfl rfl; try simp only [Act.put, List.setIfInBounds_toArray, List.set_cons_zero, List.set_cons_succ]))
  refine wpO_nil ?_
  go_wp2
  go_ret
  exact ⟨rfl, ((Fr.refl _ _).alloc _).drew.trans (hf1)⟩
end Go.Proofs.Ytohnchkoldbpcaa

/- wire: Grow, Concat, out, Take, Lose, Twice. -/
namespace Go.Proofs.Ytohnchkoldbpcaa
open Go Go.RowKit Go.Proofs

set_option maxRecDepth 100000 in
set_option maxHeartbeats 1000000 in
theorem grow_nil (n : Nat) (w : World) (hn : n ≤ 1000000) :
    Calls Try.prog 64 #[.slice none 0 0, .int .i64 n] w fun e w' => ∃ v, e = .returned v ∧ w'.ownsRow w.heap.size 26 8 v 0 [] ∧ Fr No w w' := by
  rcases Nat.eq_zero_or_pos n with rfl | hp
  · go_enter Try.func64, Try.ntmps64
    go_wp2
    go_ret
    exact ⟨_, rfl, World.ownsRow_nil _ _ _ _, Fr.refl _ _⟩
  · obtain ⟨i0, hi0, hz0, hz1, hz2⟩ := info_parts msg_info
    have hn1 : (0 : Int) < (n : Int) := by omega
    have hn2 : (n : Int) ≤ 1000000 := by omega
    have hb : Try.t26.bytes = 72 := by kernel_rfl
    have k1 : ¬ (281474976710656 < (n : Int) * (Try.t26.bytes : Int)) := by rw [hb]; omega
    have k2 : ¬ (281474976710656 < Builtin.nextslicecap n 0 * Try.t26.bytes) := by rw [hb, nextslicecap_zero hp]; omega
    have k3 : ¬ n = 0 := by omega
    have k4 : ¬ n * 8 = 0 := by omega
    clear hb hz0 hz1 hz2 hi0
    go_enter Try.func64, Try.ntmps64
    go_wp2
    go_ret
    refine ⟨_, rfl, ?_, by (repeat (first | exact Fr.refl _ _ | assumption | refine Fr.drew ?_ | refine Fr.drewL ?_ | refine Fr.alloc ?_ _))⟩
    have c1 := grownCap_ge w n 0 26
    have c2 := grownCap_le_maxLen w n 0 26 (by simp only [maxLen]; omega)
    refine World.ownsRow_made w _ (grownCap w n 0 26) (Nat.le_refl _) c2 ?_
    simp only [Array.size_append, size_zeroCells]
    unfold grownCap at c1 ⊢
    simp only [List.size_toArray, List.length_cons, List.length_nil, ← Nat.add_mul]
    congr 1
    omega

theorem vals_append (l l' : List Msg) : (l ++ l').flatMap Msg.vals = l.flatMap Msg.vals ++ l'.flatMap Msg.vals := List.flatMap_append ..
theorem vals_one (l : List Msg) : ∀ u ∈ l.flatMap Msg.vals, u.oneCell' = true := by
  intro u hu
  obtain ⟨m, _, hm⟩ := List.mem_flatMap.1 hu
  simp only [List.mem_cons, List.not_mem_nil, or_false] at hm
  rcases hm with h | h | h | h | h | h | h | h <;> subst h <;> rfl

/-! ### Concat of two -/
def Cat1 (n1 n2 : Nat) (sz i : Value) : Prop := (i = .int .i64 0 ∧ sz = .int .i64 0) ∨ (i = .int .i64 1 ∧ sz = .int .i64 n1) ∨ (i = .int .i64 2 ∧ sz = .int .i64 (n1 + n2))
def Cat2 (w0 : World) (l1 l2 : List Msg) (v' i : Value) (w : World) : Prop :=
  ∃ v, v = v' ∧ Fr No w0 w ∧ ((i = .int .i64 0 ∧ w.ownsRow w0.heap.size 26 8 v 0 []) ∨ (i = .int .i64 1 ∧ w.ownsRow w0.heap.size 26 8 v l1.length (l1.flatMap Msg.vals)) ∨
    (i = .int .i64 2 ∧ w.ownsRow w0.heap.size 26 8 v (l1.length + l2.length) ((l1 ++ l2).flatMap Msg.vals)))
set_option maxRecDepth 100000 in
set_option maxHeartbeats 1000000 in
theorem concat_two (b : Nat) (A1 A2 : Option Addr) (c1 c2 : Nat) (l1 l2 : List Msg) (w : World)
    (hb : Blk w b 30 [.slice A1 l1.length c1, .slice A2 l2.length c2])
    (h1 : Sl w 26 8 A1 l1.length (l1.flatMap Msg.vals)) (h2 : Sl w 26 8 A2 l2.length (l2.flatMap Msg.vals)) (hn1 : l1.length ≤ 1000) (hn2 : l2.length ≤ 1000) :
    Calls Try.prog 60 #[.slice (some ⟨b, 0, none⟩) 2 2] w fun e w' => ∃ v, e = .returned v ∧ w'.ownsRow w.heap.size 26 8 v (l1.length + l2.length) ((l1 ++ l2).flatMap Msg.vals) ∧ Fr No w w' := by
  have k0 := hb.cell 0
  have k1 := hb.cell 1
  simp only [List.getElem?_cons_zero, List.getElem?_cons_succ] at k0 k1
  have hlt := hb.lt
  obtain ⟨i0, hi0, hz0, hz1, hz2⟩ := info_parts msg_info
  have z1 : (l1.length : Int) ≤ 1000 := by omega
  have z2 : (l2.length : Int) ≤ 1000 := by omega
  have z3 : (0 : Int) ≤ (l1.length : Int) := by omega
  have z4 : (0 : Int) ≤ (l2.length : Int) := by omega
  go_enter Try.func60, Try.ntmps60
  go_wp2
  go_loop [3, 5, 11] (fun s _ i => Cat1 l1.length l2.length s i) (fun _ _ i => 2 - (intOf i).toNat)
  case atStart => exact .inl ⟨rfl, rfl⟩
  case round =>
    rcases hrel with ⟨rfl, rfl⟩ | ⟨rfl, rfl⟩ | ⟨rfl, rfl⟩
    · go_wp2
      exact ⟨.inr (.inl ⟨rfl, rfl⟩), by simp [intOf]⟩
    · go_wp2
      exact ⟨.inr (.inr ⟨rfl, rfl⟩), by simp [intOf]⟩
    · go_wp2_with (go_at_call 64; refine (grow_nil (l1.length + l2.length) _ (by omega)).mono ?_; rintro e w1 ⟨v1, rfl, hown1, hf1⟩)
      go_loopw [6, 8, 27] (fun v _ i wr => Cat2 w l1 l2 v i wr) (fun _ _ i _ => 2 - (intOf i).toNat)
      case atStart => exact ⟨_, rfl, hf1, .inl ⟨rfl, hown1⟩⟩
      case round =>
        clear hown1 hf1
        obtain ⟨v, rfl, hfr, ⟨rfl, ho⟩ | ⟨rfl, ho⟩ | ⟨rfl, ho⟩⟩ := hrel
        · have hc := hfr.cells
          go_wp2_with (at_builtin; refine wpList_append_owned' (by rfl) (.tmp 31) (.tmp 32) 30 (by rfl) w.heap.size 26 i0 _ 8 72 Try.underlying30 hi0 hz0 hz1 hz2 rfl (by omega) v 0 [] (by rfl) ho A1 l1.length c1 26 (l1.flatMap Msg.vals) (by rfl) (h1.fr0 hfr) (vals_one _) (by simp only [maxLen]; omega) (by omega) hfr.size ?_; intro v2 w2 hown2 hg2 hat2)
          have hfr2 := hfr.grown hg2 (fun k hk => .inr ((ho.lt k hk).1))
          simp only [Nat.zero_add, List.nil_append] at hown2
          exact ⟨⟨_, rfl, hfr2, .inr (.inl ⟨rfl, hown2⟩)⟩, by simp [intOf]⟩
        · have hc := hfr.cells
          go_wp2_with (at_builtin; refine wpList_append_owned' (by rfl) (.tmp 31) (.tmp 32) 30 (by rfl) w.heap.size 26 i0 _ 8 72 Try.underlying30 hi0 hz0 hz1 hz2 rfl (by omega) v l1.length (l1.flatMap Msg.vals) (by rfl) ho A2 l2.length c2 26 (l2.flatMap Msg.vals) (by rfl) (h2.fr0 hfr) (vals_one _) (by simp only [maxLen]; omega) (by omega) hfr.size ?_; intro v2 w2 hown2 hg2 hat2)
          have hfr2 := hfr.grown hg2 (fun k hk => .inr ((ho.lt k hk).1))
          rw [← vals_append] at hown2
          exact ⟨⟨_, rfl, hfr2, .inr (.inr ⟨rfl, hown2⟩)⟩, by simp [intOf]⟩
        · go_wp2
          go_ret
          exact ⟨v, rfl, ho, hfr⟩
end Go.Proofs.Ytohnchkoldbpcaa

/- wire: out, Take, Lose, Twice. -/
namespace Go.Proofs.Ytohnchkoldbpcaa
open Go Go.RowKit Go.Proofs

/-- the list of p lies in a block from B on -/
def LFresh (w : World) (p B : Nat) : Prop := ∀ A n c, w.cell? ⟨p, 0, none⟩ = some (.slice A n c) → ∀ a, A = some a → B ≤ a.block
theorem Sl.frA {S : Nat → Prop} {w w' : World} {t : TypeId} {sz n : Nat} {A : Option Addr} {xs : List Value} (h : Sl w t sz A n xs) (hf : Fr S w w') (hA : ∀ a, A = some a → ¬ S a.block) : Sl w' t sz A n xs :=
  ⟨h.1, fun hn => by
    obtain ⟨b, o, cur, fr, e, hb, hx⟩ := h.2 hn
    exact ⟨b, o, cur, fr, e, (hf.block b (lt_of_heap hb) (hA _ e)).trans hb, hx⟩⟩
theorem NetAt.frA {S : Nat → Prop} {w w' : World} {p m : Nat} {l : List Msg} {C : Cuts} (h : NetAt w p m l C) (hf : Fr S w w') (hp : ¬ S p) (hm : ¬ S m) (hA : ∀ A n c, w.cell? ⟨p, 0, none⟩ = some (.slice A n c) → ∀ a, A = some a → ¬ S a.block) : NetAt w' p m l C := by
  obtain ⟨A, c, hB, hS', hc, hM⟩ := h
  exact ⟨A, c, hB.fr hf hp, hS'.frA hf (hA A _ c (hB.cell 0)), hc, hM.fr hf hm⟩
theorem own_shape {w : World} {base n size : Nat} {e : TypeId} {v : Value} {xs : List Value} (h : w.ownsRow base e size v n xs) : ∃ A c, v = .slice A n c ∧ n ≤ c := by
  rcases h.2 with ⟨rfl, rfl⟩ | ⟨g, cap, cur, rfl, _, _, hc, _⟩
  · exact ⟨_, _, rfl, Nat.le_refl _⟩
  · exact ⟨_, _, rfl, hc⟩
theorem Sl.take {w : World} {t : TypeId} {sz n k : Nat} {A : Option Addr} {xs : List Value} (h : Sl w t sz A n xs) (hk : k ≤ n) : Sl w t sz A k (xs.take (k * sz)) := by
  refine ⟨?_, fun hp => ?_⟩
  · rw [List.length_take, h.1]
    have := Nat.mul_le_mul_right sz hk
    omega
  · obtain ⟨b, o, cur, fr, rfl, hb, hx⟩ := h.2 (by omega)
    refine ⟨b, o, cur, fr, rfl, hb, fun j u hu => ?_⟩
    rw [List.getElem?_take] at hu
    split at hu
    · exact hx j u hu
    · cases hu
theorem Sl.drop {w : World} {t : TypeId} {sz n k m : Nat} {A : Option Addr} {xs : List Value} (h : Sl w t sz A n xs) (hk : k ≤ n) (hm : n ≤ m) :
    Sl w t sz (if m = k then A else Option.map (fun x => x.add (k * sz)) A) (n - k) (xs.drop (k * sz)) := by
  have h1 := h.cut (l := k) (k := n) (c := 0) (m := m) hk (Nat.le_refl _) hm
  rwa [List.take_of_length_le (by rw [List.length_drop, h.1, Nat.sub_mul]; omega)] at h1
theorem vals_take (l : List Msg) (k : Nat) : (l.flatMap Msg.vals).take (k * 8) = (l.take k).flatMap Msg.vals := by
  induction l generalizing k with
  | nil => simp
  | cons m l ih =>
    cases k with
    | zero => simp
    | succ k =>
      have e : (k + 1) * 8 = k * 8 + 8 := by omega
      rw [e]
      simp only [List.flatMap_cons, List.take_succ_cons, List.cons_append, List.nil_append, ih]
theorem vals_drop (l : List Msg) (k : Nat) : (l.flatMap Msg.vals).drop (k * 8) = (l.drop k).flatMap Msg.vals := by
  induction l generalizing k with
  | nil => simp
  | cons m l ih =>
    cases k with
    | zero => simp
    | succ k =>
      have e : (k + 1) * 8 = k * 8 + 8 := by omega
      rw [e]
      simp only [List.flatMap_cons, List.drop_succ_cons, List.cons_append, List.nil_append, ih]

set_option maxRecDepth 100000 in
set_option maxHeartbeats 1000000 in
theorem out_any (p m : Nat) (l : List Msg) (C : Cuts) (k : Nat) (w : World) (h : NetAt w p m l C) (hk : k < l.length) (hl : l.length ≤ 1000) :
    Calls Try.prog 49 #[.pointer (some ⟨p, 0, none⟩), .int .i64 k] w fun e w' => e = .returned (.tuple #[]) ∧ NetAt w' p m (l.eraseIdx k) C ∧ Fr (· = p) w w' ∧ LFresh w' p w.heap.size := by
  obtain ⟨A, c, hB, hS, hc, hM⟩ := h
  have h0 := hB.cell 0
  simp only [List.getElem?_cons_zero] at h0
  have z0 := hB.lt
  have i1 : (0 : Int) ≤ (k : Int) := by omega
  have i2 : (k : Int) < (l.length : Int) := by omega
  have i3 : (k : Int) ≤ (c : Int) := by omega
  have i4 : (k : Int) + 1 ≤ (l.length : Int) := by omega
  have i5 : (l.length : Int) ≤ (c : Int) := by omega
  have i6 : (k : Int) ≤ 1000 := by omega
  have i7 : IntKind.i64.wrap ((k : Int) + 1) = (k : Int) + 1 := IntWalk.i64_in _ (by omega)
  have i8 : (0 : Int) ≤ (k : Int) + 1 := by omega
  have i9 : ((k : Int) + 1).toNat = k + 1 := by omega
  go_enter Try.func49, Try.ntmps49
  go_wp2
  refine wp_region_o [(0, 0), (1, 0), (2, 0), (3, 0), (5, 0), (6, 0), (8, 0), (9, 0), (10, 0), (12, 0), (13, 0), (4, 1), (7, 0), (11, 1), (14, 0), (15, 2), (16, 2), (17, 0), (18, 0), (19, 3)] (by kernel_rfl) (by kernel_rfl) ?_
  repeat (first
    | (apply wpO_pure rfl rfl; (focus (intro w'; go_simp; (try rfl); done)); try simp only [Act.put, List.setIfInBounds_toArray, List.set_cons_zero, List.set_cons_succ])
    | (apply wpO_read rfl rfl; (focus (intro w' hf' hs'; (try simp only [World.size_drew, World.cell?_drew, World.size_alloc, World.size_setCell] at hs'); go_simp; (try rfl); done)); try simp only [Act.put, List.setIfInBounds_toArray, List.set_cons_zero, List.set_cons_succ])
    | (apply wpO_skip (by decide) rfl rfl; try simp only [Act.put, List.setIfInBounds_toArray, List.set_cons_zero, List.set_cons_succ]))

  refine wpO_loudE rfl fun K hK => ?_
  go_simp
  refine hK _ _ ⟨by (repeat (first | exact Fr.refl _ _ | assumption | refine Fr.drew ?_ | refine Fr.drewL ?_ | refine Fr.alloc ?_ _)), ?_⟩
  clear hK K
  repeat (first
    | (apply wpO_pure rfl rfl; (focus (intro w'; go_simp; (try rfl); done)); try simp only [Act.put, List.setIfInBounds_toArray, List.set_cons_zero, List.set_cons_succ])
    | (apply wpO_read rfl rfl; (focus (intro w' hf' hs'; (try simp only [World.size_drew, World.cell?_drew, World.size_alloc, World.size_setCell] at hs'); go_simp; (try rfl); done)); try simp only [Act.put, List.setIfInBounds_toArray, List.set_cons_zero, List.set_cons_succ])
    | (apply wpO_skip (by decide) rfl rfl; try simp only [Act.put, List.setIfInBounds_toArray, List.set_cons_zero, List.set_cons_succ]))
  have hfA : Fr No w (w.alloc (Obj.cells #[.slice A k k, .slice (if c = k + 1 then A else Option.map (fun x => x.add ((k + 1) * 8)) A) (l.length - (k + 1)) (c - (k + 1))] 30)).drew := by (repeat (first | exact Fr.refl _ _ | assumption | refine Fr.drew ?_ | refine Fr.drewL ?_ | refine Fr.alloc ?_ _))
  have s1 : Sl w 26 8 A (l.take k).length ((l.take k).flatMap Msg.vals) := by
    rw [← vals_take, List.length_take, Nat.min_eq_left (by omega)]
    exact hS.take (by omega)
  have s2 : Sl w 26 8 (if c = k + 1 then A else Option.map (fun x => x.add ((k + 1) * 8)) A) (l.drop (k + 1)).length ((l.drop (k + 1)).flatMap Msg.vals) := by
    rw [← vals_drop, List.length_drop]
    exact hS.drop (by omega) (by omega)
  have sb := Blk.new w 30 [.slice A k k, .slice (if c = k + 1 then A else Option.map (fun x => x.add ((k + 1) * 8)) A) (l.length - (k + 1)) (c - (k + 1))]
  have sb' : Blk (w.alloc (Obj.cells #[.slice A k k, .slice (if c = k + 1 then A else Option.map (fun x => x.add ((k + 1) * 8)) A) (l.length - (k + 1)) (c - (k + 1))] 30)).drew w.heap.size 30
      [.slice A (l.take k).length k, .slice (if c = k + 1 then A else Option.map (fun x => x.add ((k + 1) * 8)) A) (l.drop (k + 1)).length (c - (k + 1))] := by
    rw [List.length_take, Nat.min_eq_left (by omega), List.length_drop]
    exact sb
  have S1 := Lib.hid (s1.fr0 hfA)
  have S2 := Lib.hid (s2.fr0 hfA)
  have SB := Lib.hid sb'
  clear s1 s2 sb sb'
  refine wpO_loudE rfl fun K hK => ?_
  go_simp
  refine (concat_two _ _ _ _ _ (l.take k) (l.drop (k + 1)) _ SB.out S1.out S2.out (by rw [List.length_take]; omega) (by rw [List.length_drop]; omega)).mono ?_
  rintro e w1 ⟨v, rfl, hown, hf1⟩
  have hlen : (l.take k).length + (l.drop (k + 1)).length = (l.eraseIdx k).length := by rw [List.length_take, List.length_drop, List.length_eraseIdx]; simp [hk]; omega
  have hcat : l.take k ++ l.drop (k + 1) = l.eraseIdx k := (List.eraseIdx_eq_take_drop_succ l k).symm
  rw [hlen, hcat] at hown
  obtain ⟨A2, c2, rfl, hc2⟩ := own_shape hown
  refine hK _ _ ⟨hf1, ?_⟩
  clear hK K hlen hcat
  try simp only [Act.put, List.setIfInBounds_toArray, List.set_cons_zero, List.set_cons_succ]
  have hF := hfA.trans hf1
  have hB1 := hB.fr hF (fun h => h)
  have q0 := hB1.cell 0
  have q1 := hB1.frozen 0
  simp only [List.getElem?_cons_zero] at q0
  have q2 := hB1.lt
  repeat (first
    | (apply wpO_pure rfl rfl; (focus (intro w'; go_simp; (try rfl); done)); try simp only [Act.put, List.setIfInBounds_toArray, List.set_cons_zero, List.set_cons_succ])
    | (apply wpO_read rfl rfl; (focus (intro w' hf' hs'; (try simp only [World.size_drew, World.cell?_drew, World.size_alloc, World.size_setCell] at hs'); go_simp; (try rfl); done)); try simp only [Act.put, List.setIfInBounds_toArray, List.set_cons_zero, List.set_cons_succ])
    | (apply wpO_skip (by decide) rfl rfl; try simp only [Act.put, List.setIfInBounds_toArray, List.set_cons_zero, List.set_cons_succ]))
  refine wpO_loud rfl fun K hK => ?_
  go_simp
  refine hK _ _ ?_
  clear hK K
  repeat (first
    | (apply wpO_pure rfl rfl; (focus (intro w'; go_simp; (try rfl); done)); try simp only [Act.put, List.setIfInBounds_toArray, List.set_cons_zero, List.set_cons_succ])
    | (apply wpO_read rfl rfl; (focus (intro w' hf' hs'; (try simp only [World.size_drew, World.cell?_drew, World.size_alloc, World.size_setCell] at hs'); go_simp; (try rfl); done)); try simp only [Act.put, List.setIfInBounds_toArray, List.set_cons_zero, List.set_cons_succ])
    | (apply wpO_skip (by decide) rfl rfl; try simp only [Act.put, List.setIfInBounds_toArray, List.set_cons_zero, List.set_cons_succ]))
  refine wpO_nil ?_
  go_end0
  refine ⟨rfl, ⟨A2, c2, hB1.set_ 0 _, ?_, hc2, ?_⟩, (hF.any (· = p)).setCell (.inl rfl) _, ?_⟩
  · exact (Sl.of_own hown).far hB1 (by decide) rfl _
  · exact (hM.fr hF (fun h => h)).far (p := ⟨p, 0, none⟩) (((hM.fr hF (fun h => h)).ne hB1)).symm _
  · intro A' n' c' hA' a ha
    rw [(hB1.set_ 0 (.slice A2 (l.eraseIdx k).length c2)).cell 0] at hA'
    simp only [List.set_cons_zero, List.getElem?_cons_zero, Option.some.injEq, Value.slice.injEq] at hA'
    obtain ⟨rfl, _, _⟩ := hA'
    have := (hown.lt a.block (by simp [Value.ownBlock, ha])).1
    have h2 := hfA.size
    omega
end Go.Proofs.Ytohnchkoldbpcaa

/- wire: Take, Lose, Twice. -/
namespace Go.Proofs.Ytohnchkoldbpcaa
open Go Go.RowKit Go.Proofs

theorem at_ok (p m : Nat) (l : List Msg) (C : Cuts) (k : Nat) (w : World) (h : NetAt w p m l C) (hk : k < l.length) :
    Calls Try.prog 48 #[.pointer (some ⟨p, 0, none⟩), .int .i64 k] w fun e w' => e = .returned (.int .i64 0) ∧ Fr No w w' := by
  have e : atE k l.length = 0 := by simp [atE, inL, hk]
  rw [← e]
  exact at_any p m l C k w h
theorem at_bad (p m : Nat) (l : List Msg) (C : Cuts) (i : Int) (w : World) (h : NetAt w p m l C) (hi : inL i l.length = false) :
    Calls Try.prog 48 #[.pointer (some ⟨p, 0, none⟩), .int .i64 i] w fun e w' => e = .returned (.int .i64 30) ∧ Fr No w w' := by
  have e : atE i l.length = 30 := by simp [atE, hi]
  rw [← e]
  exact at_any p m l C i w h

theorem vals_at {l : List Msg} {k : Nat} {x : Msg} (hx : l[k]? = some x) (j : Nat) (hj : j < 8) : (l.flatMap Msg.vals)[k * 8 + j]? = x.vals[j]? := by
  induction l generalizing k with
  | nil => simp at hx
  | cons m l ih =>
    cases k with
    | zero =>
      simp only [List.getElem?_cons_zero, Option.some.injEq] at hx
      subst hx
      simp only [List.flatMap_cons, Nat.zero_mul, Nat.zero_add]
      rw [List.getElem?_append_left (by simpa using hj)]
    | succ k =>
      simp only [List.getElem?_cons_succ] at hx
      have e : (k + 1) * 8 + j = (k * 8 + j) + 8 := by omega
      rw [e]
      simp only [List.flatMap_cons]
      rw [List.getElem?_append_right (by simp)]
      simpa using ih hx
structure MsgCells (w : World) (b o : Nat) (x : Msg) : Prop where
  c0 : w.cell? ⟨b, o, none⟩ = some (.int .i64 x.frm)
  c1 : w.cell? ⟨b, o + 1, none⟩ = some (.int .i64 x.to_)
  c2 : w.cell? ⟨b, o + 2, none⟩ = some (.int .i64 x.kind)
  c3 : w.cell? ⟨b, o + 3, none⟩ = some (.int .i64 x.n)
  c4 : w.cell? ⟨b, o + 4, none⟩ = some (.int .i64 x.low)
  c5 : w.cell? ⟨b, o + 5, none⟩ = some (.int .i64 x.mins)
  c6 : w.cell? ⟨b, o + 6, none⟩ = some (.int .i64 x.code)
  c7 : w.cell? ⟨b, o + 7, none⟩ = some (.string x.text)
theorem msg_cells {w : World} {t : TypeId} {A : Option Addr} {n : Nat} {l : List Msg} (h : Sl w t 8 A n (l.flatMap Msg.vals)) {k : Nat} {x : Msg} (hx : l[k]? = some x) :
    ∃ b o, A = some ⟨b, o, none⟩ ∧ b < w.heap.size ∧ MsgCells w b (o + k * 8) x := by
  have hk := (List.getElem?_eq_some_iff.1 hx).1
  have hn : 0 < n := by have := h.1; rw [vals_len] at this; omega
  obtain ⟨b, o, rfl, hb, hc, _⟩ := h.cells hn
  have key : ∀ j u, j < 8 → x.vals[j]? = some u → w.cell? ⟨b, o + k * 8 + j, none⟩ = some u := fun j u hj hu => by
    rw [Nat.add_assoc]
    exact hc _ u ((vals_at hx j hj).trans hu)
  exact ⟨b, o, rfl, hb, key 0 _ (by omega) rfl, key 1 _ (by omega) rfl, key 2 _ (by omega) rfl, key 3 _ (by omega) rfl, key 4 _ (by omega) rfl, key 5 _ (by omega) rfl, key 6 _ (by omega) rfl, key 7 _ (by omega) rfl⟩

abbrev zeroMsg : Msg := ⟨0, 0, 0, 0, 0, 0, 0, ByteArray.empty⟩
abbrev msgErr (x : Msg) (e : Int) : Value := .tuple #[x.val, .int .i64 e]

theorem Blk.cells8 {w : World} {g : Nat} {t : TypeId} {a0 a1 a2 a3 a4 a5 a6 a7 : Value} (h : Blk w g t [a0, a1, a2, a3, a4, a5, a6, a7]) :
    w.cell? ⟨g, 0, none⟩ = some a0 ∧ w.cell? ⟨g, 1, none⟩ = some a1 ∧ w.cell? ⟨g, 2, none⟩ = some a2 ∧ w.cell? ⟨g, 3, none⟩ = some a3 ∧
    w.cell? ⟨g, 4, none⟩ = some a4 ∧ w.cell? ⟨g, 5, none⟩ = some a5 ∧ w.cell? ⟨g, 6, none⟩ = some a6 ∧ w.cell? ⟨g, 7, none⟩ = some a7 :=
  ⟨h.cell 0, h.cell 1, h.cell 2, h.cell 3, h.cell 4, h.cell 5, h.cell 6, h.cell 7⟩
def set8 (w : World) (g : Nat) (x : Msg) : World :=
  (((((((w.setCell ⟨g, 0, none⟩ (.int .i64 x.frm)).setCell ⟨g, 1, none⟩ (.int .i64 x.to_)).setCell ⟨g, 2, none⟩ (.int .i64 x.kind)).setCell ⟨g, 3, none⟩ (.int .i64 x.n)).setCell ⟨g, 4, none⟩ (.int .i64 x.low)).setCell ⟨g, 5, none⟩ (.int .i64 x.mins)).setCell ⟨g, 6, none⟩ (.int .i64 x.code)).setCell ⟨g, 7, none⟩ (.string x.text)
theorem Blk.set8 {w : World} {g : Nat} {t : TypeId} {a0 a1 a2 a3 a4 a5 a6 a7 : Value} (h : Blk w g t [a0, a1, a2, a3, a4, a5, a6, a7]) (x : Msg) : Blk (set8 w g x) g t x.vals :=
  (((((((h.set_ 0 _).set_ 1 _).set_ 2 _).set_ 3 _).set_ 4 _).set_ 5 _).set_ 6 _).set_ 7 _
theorem Fr.set8 {S : Nat → Prop} {a w : World} {g : Nat} (h : Fr S a w) (hg : S g ∨ a.heap.size ≤ g) (x : Msg) : Fr S a (set8 w g x) :=
  (((((((h.setCell (p := ⟨g, 0, none⟩) hg _).setCell (p := ⟨g, 1, none⟩) hg _).setCell (p := ⟨g, 2, none⟩) hg _).setCell (p := ⟨g, 3, none⟩) hg _).setCell (p := ⟨g, 4, none⟩) hg _).setCell (p := ⟨g, 5, none⟩) hg _).setCell (p := ⟨g, 6, none⟩) hg _).setCell (p := ⟨g, 7, none⟩) hg _
theorem take_res {tmps : Array Value} {w : World} {g : Nat} {x : Msg} {e : Int} (h : Blk w g 26 x.vals) (h4 : tmps.getD 4 undef = .pointer (some ⟨g, 0, none⟩)) (h5 : tmps.getD 5 undef = .int .i64 e) :
    (results Try.f38 tmps).run Try.prog w = .ok (msgErr x e) w := by
  obtain ⟨r0, r1, r2, r3, r4, r5, r6, r7⟩ := h.cells8
  simp only [Array.getD_eq_getD_getElem?] at h4 h5
  simp [results, Try.results38, go_sem, h4, h5, r0, r1, r2, r3, r4, r5, r6, r7]

set_option maxHeartbeats 1000000 in
theorem take_nil (i : Int) (w : World) :
    Calls Try.prog 38 #[.pointer none, .int .i64 i] w fun e w' => e = .returned (msgErr zeroMsg 2) ∧ Fr No w w' := by
  go_enter Try.func38, Try.ntmps38
  go_wp2_with (go_at_call 48; refine (at_nil _ _).mono ?_; rintro e w1 ⟨rfl, hf1⟩; have hblk := (Blk.new w 26 zeroMsg.vals).fr hf1 (fun h => h); obtain ⟨r0, r1, r2, r3, r4, r5, r6, r7⟩ := hblk.cells8; have hfz := hblk.frozens)
  exact bodyPost_ret (v := msgErr zeroMsg 2) (take_res (x := zeroMsg) (hblk.set8 zeroMsg) rfl rfl) rfl ⟨rfl, (((Fr.refl _ _).alloc _).trans hf1).set8 (.inr (Nat.le_refl _)) zeroMsg⟩
set_option maxHeartbeats 1000000 in
theorem take_bad (p m : Nat) (l : List Msg) (C : Cuts) (i : Int) (w : World) (h : NetAt w p m l C) (hi : inL i l.length = false) :
    Calls Try.prog 38 #[.pointer (some ⟨p, 0, none⟩), .int .i64 i] w fun e w' => e = .returned (msgErr zeroMsg 30) ∧ Fr No w w' := by
  have H := Lib.hid h
  have HI := Lib.hid hi
  clear h hi
  go_enter Try.func38, Try.ntmps38
  go_wp2_with (go_at_call 48; refine (at_bad p m l C _ _ (H.out.alloc _) HI.out).mono ?_; rintro e w1 ⟨rfl, hf1⟩; have hblk := (Blk.new w 26 zeroMsg.vals).fr hf1 (fun h => h); obtain ⟨r0, r1, r2, r3, r4, r5, r6, r7⟩ := hblk.cells8; have hfz := hblk.frozens)
  exact bodyPost_ret (v := msgErr zeroMsg 30) (take_res (x := zeroMsg) (hblk.set8 zeroMsg) rfl rfl) rfl ⟨rfl, (((Fr.refl _ _).alloc _).trans hf1).set8 (.inr (Nat.le_refl _)) zeroMsg⟩
set_option maxRecDepth 100000 in
set_option maxHeartbeats 2000000 in
theorem take_ok (p m : Nat) (l : List Msg) (C : Cuts) (k : Nat) (x : Msg) (w : World) (h : NetAt w p m l C) (hx : l[k]? = some x) (hl : l.length ≤ 1000) (hc : cutV C x = false) :
    Calls Try.prog 38 #[.pointer (some ⟨p, 0, none⟩), .int .i64 k] w fun e w' => e = .returned (msgErr x 0) ∧ NetAt w' p m (l.eraseIdx k) C ∧ Fr (· = p) w w' := by
  have hk := (List.getElem?_eq_some_iff.1 hx).1
  have i1 : (0 : Int) ≤ (k : Int) := by omega
  have i2 : (k : Int) < (l.length : Int) := by omega
  have H := Lib.hid h
  have HX := Lib.hid hx
  have HL := Lib.hid hl
  clear h hx hl
  go_enter Try.func38, Try.ntmps38
  go_wp2_with (first
    | (go_at_call 48; refine (at_ok p m l C k _ (H.out.alloc _) hk).mono ?_; rintro e w1 ⟨rfl, hf1⟩
       have hblk := (Blk.new w 26 zeroMsg.vals).fr hf1 (fun h => h)
       have N1 := Lib.hid ((H.out.alloc (Obj.cells zeroMsg.vals.toArray 26)).fr0 hf1)
       obtain ⟨A, cp, hB, hS, hcp, hM⟩ := N1.out
       obtain ⟨b, o, rfl, hb, ⟨m0, m1, m2, m3, m4, m5, m6, m7⟩⟩ := msg_cells hS HX.out
       have h0 := hB.cell 0
       simp only [List.getElem?_cons_zero] at h0
       have hp1 := hB.lt
       have hp0 := H.out.lt
       clear hS hM hB)
    | (go_at_call 51; refine (open_any p m l C x _ (N1.out.alloc _)).mono ?_; rintro e w2 ⟨rfl, hf2⟩
       have hL2 := (Blk.new w1 26 x.vals).fr hf2 (fun h => h)
       have hb2 := (hblk.alloc (Obj.cells x.vals.toArray 26)).fr hf2 (fun h => h)
       have N2 := Lib.hid ((N1.out.alloc (Obj.cells x.vals.toArray 26)).fr0 hf2)
       have F2 := Lib.hid ((((Fr.refl No w).alloc (Obj.cells zeroMsg.vals.toArray 26)).trans hf1).alloc (Obj.cells x.vals.toArray 26) |>.trans hf2)
       clear hf1 hf2 m0 m1 m2 m3 m4 m5 m6 m7 h0 hblk)
    | (go_at_call 49; refine (out_any p m l C k _ N2.out hk HL.out).mono ?_; rintro e w3 ⟨rfl, hn3, hf3, hL⟩
       have hL3 := hL2.fr hf3 (fun e => by omega)
       have hb3 := hb2.fr hf3 (fun e => by omega)
       obtain ⟨r0, r1, r2, r3, r4, r5, r6, r7⟩ := hb3.cells8
       have hfz := hb3.frozens
       obtain ⟨q0, q1, q2, q3, q4, q5, q6, q7⟩ := hL3.cells8
       have N3 := Lib.hid hn3
       have hlt2 := hb2.lt
       clear hL2 hb2 hn3))
  refine bodyPost_ret (v := msgErr x 0) (take_res (x := x) (hb3.set8 x) rfl rfl) rfl ⟨rfl, ?_, ((F2.out.any (· = p)).trans hf3).set8 (.inr (Nat.le_refl _)) x⟩
  refine N3.out.frA (S := fun j => j = w.heap.size) ((Fr.refl (fun j => j = w.heap.size) w3).set8 (.inl rfl) x) (fun e => by omega) (fun e => ?_) (fun A n c hA a ha e => ?_)
  · have := H.out.ltm
    omega
  · have h1 := hL A n c hA a ha
    have h2 := F2.out.size
    omega
set_option maxRecDepth 100000 in
set_option maxHeartbeats 2000000 in
theorem take_cut (p m : Nat) (l : List Msg) (C : Cuts) (k : Nat) (x : Msg) (w : World) (h : NetAt w p m l C) (hx : l[k]? = some x) (hc : cutV C x = true) :
    Calls Try.prog 38 #[.pointer (some ⟨p, 0, none⟩), .int .i64 k] w fun e w' => e = .returned (msgErr zeroMsg 5) ∧ Fr No w w' := by
  have hk := (List.getElem?_eq_some_iff.1 hx).1
  have i1 : (0 : Int) ≤ (k : Int) := by omega
  have i2 : (k : Int) < (l.length : Int) := by omega
  have H := Lib.hid h
  have HX := Lib.hid hx
  clear h hx
  go_enter Try.func38, Try.ntmps38
  go_wp2_with (first
    | (go_at_call 48; refine (at_ok p m l C k _ (H.out.alloc _) hk).mono ?_; rintro e w1 ⟨rfl, hf1⟩
       have hblk := (Blk.new w 26 zeroMsg.vals).fr hf1 (fun h => h)
       have N1 := Lib.hid ((H.out.alloc (Obj.cells zeroMsg.vals.toArray 26)).fr0 hf1)
       obtain ⟨A, cp, hB, hS, hcp, hM⟩ := N1.out
       obtain ⟨b, o, rfl, hb, ⟨m0, m1, m2, m3, m4, m5, m6, m7⟩⟩ := msg_cells hS HX.out
       have h0 := hB.cell 0
       simp only [List.getElem?_cons_zero] at h0
       have hp1 := hB.lt
       clear hS hM hB)
    | (go_at_call 51; refine (open_any p m l C x _ (N1.out.alloc _)).mono ?_; rintro e w2 ⟨rfl, hf2⟩
       have hb2 := (hblk.alloc (Obj.cells x.vals.toArray 26)).fr hf2 (fun h => h)
       have F2 := Lib.hid ((((Fr.refl No w).alloc (Obj.cells zeroMsg.vals.toArray 26)).trans hf1).alloc (Obj.cells x.vals.toArray 26) |>.trans hf2)
       obtain ⟨r0, r1, r2, r3, r4, r5, r6, r7⟩ := hb2.cells8
       have hfz := hb2.frozens
       clear hf1 hf2 m0 m1 m2 m3 m4 m5 m6 m7 h0 hblk))
  exact bodyPost_ret (v := msgErr zeroMsg 5) (take_res (x := zeroMsg) (hb2.set8 zeroMsg) rfl rfl) rfl ⟨rfl, F2.out.set8 (.inr (Nat.le_refl _)) zeroMsg⟩

/-! ### Take, whatever the place -/
def takeR (l : List Msg) (C : Cuts) (i : Int) : Msg × Int × List Msg :=
  if inL i l.length then
    match l[i.toNat]? with
    | some x => if cutV C x then (zeroMsg, 5, l) else (x, 0, l.eraseIdx i.toNat)
    | none => (zeroMsg, 30, l)
  else (zeroMsg, 30, l)
theorem take_any (p m : Nat) (l : List Msg) (C : Cuts) (i : Int) (w : World) (h : NetAt w p m l C) (hl : l.length ≤ 1000) :
    Calls Try.prog 38 #[.pointer (some ⟨p, 0, none⟩), .int .i64 i] w fun e w' => e = .returned (msgErr (takeR l C i).1 (takeR l C i).2.1) ∧ NetAt w' p m (takeR l C i).2.2 C ∧ Fr (· = p) w w' := by
  cases hi : inL i l.length with
  | false =>
    have e : takeR l C i = (zeroMsg, 30, l) := by simp [takeR, hi]
    rw [e]
    refine (take_bad p m l C i w h hi).mono ?_
    rintro e w' ⟨rfl, hf⟩
    exact ⟨rfl, h.fr0 hf, hf.any _⟩
  | true =>
    simp only [inL, Bool.and_eq_true, decide_eq_true_eq] at hi
    obtain ⟨k, rfl⟩ := Int.eq_ofNat_of_zero_le hi.1
    have hk : k < l.length := by omega
    have hx : l[k]? = some l[k] := List.getElem?_eq_getElem hk
    cases hc : cutV C l[k] with
    | true =>
      have e : takeR l C k = (zeroMsg, 5, l) := by simp [takeR, inL, hk, hc]
      rw [e]
      refine (take_cut p m l C k _ w h hx hc).mono ?_
      rintro e w' ⟨rfl, hf⟩
      exact ⟨rfl, h.fr0 hf, hf.any _⟩
    | false =>
      have e : takeR l C k = (l[k], 0, l.eraseIdx k) := by simp [takeR, inL, hk, hc]
      rw [e]
      exact take_ok p m l C k _ w h hx hl hc

/-! ### Lose, Twice -/
theorem lose_nil (i : Int) (w : World) :
    Calls Try.prog 36 #[.pointer none, .int .i64 i] w fun e w' => e = .returned (.int .i64 2) ∧ Fr No w w' := by
  go_enter Try.func36, Try.ntmps36
  go_wp2_with (go_at_call 48; refine (at_nil _ _).mono ?_; rintro e w1 ⟨rfl, hf1⟩)
  go_ret
  exact ⟨rfl, hf1⟩
theorem lose_any (p m : Nat) (l : List Msg) (C : Cuts) (i : Int) (w : World) (h : NetAt w p m l C) (hl : l.length ≤ 1000) :
    Calls Try.prog 36 #[.pointer (some ⟨p, 0, none⟩), .int .i64 i] w fun e w' => e = .returned (.int .i64 (atE i l.length)) ∧ NetAt w' p m (if inL i l.length then l.eraseIdx i.toNat else l) C ∧ Fr (· = p) w w' := by
  have H := Lib.hid h
  have HL := Lib.hid hl
  clear h hl
  cases hi : inL i l.length with
  | false =>
    have e : atE i l.length = 30 := by simp [atE, hi]
    rw [e]
    simp only [Bool.false_eq_true, if_false]
    have HI := Lib.hid hi
    clear hi e
    go_enter Try.func36, Try.ntmps36
    go_wp2_with (go_at_call 48; refine (at_bad p m l C _ _ H.out HI.out).mono ?_; rintro e w1 ⟨rfl, hf1⟩)
    go_ret
    exact ⟨rfl, H.out.fr0 hf1, hf1.any _⟩
  | true =>
    have e : atE i l.length = 0 := by simp [atE, hi]
    rw [e]
    simp only [if_true]
    simp only [inL, Bool.and_eq_true, decide_eq_true_eq] at hi
    obtain ⟨k, rfl⟩ := Int.eq_ofNat_of_zero_le hi.1
    have hk : k < l.length := by omega
    rw [Int.toNat_natCast]
    clear hi e
    go_enter Try.func36, Try.ntmps36
    go_wp2_with (first
      | (go_at_call 48; refine (at_ok p m l C k _ H.out hk).mono ?_; rintro e w1 ⟨rfl, hf1⟩)
      | (go_at_call 49; refine (out_any p m l C k _ (H.out.fr0 hf1) hk HL.out).mono ?_; rintro e w3 ⟨rfl, hn3, hf3, hL⟩))
    go_ret
    exact ⟨rfl, hn3, (hf1.any _).trans hf3⟩

theorem twice_nil (i : Int) (w : World) :
    Calls Try.prog 37 #[.pointer none, .int .i64 i] w fun e w' => e = .returned (.int .i64 2) ∧ Fr No w w' := by
  go_enter Try.func37, Try.ntmps37
  go_wp2_with (go_at_call 48; refine (at_nil _ _).mono ?_; rintro e w1 ⟨rfl, hf1⟩)
  go_ret
  exact ⟨rfl, hf1⟩
end Go.Proofs.Ytohnchkoldbpcaa

/- agent: what hubs and agents are, and what their calls answer. -/
namespace Go.Proofs.Ytohnchkoldbpcaa
open Go Go.RowKit

/-! ### The hub -/
structure Req where
  run : Int
  state : Int
  mins : Int
  code : Int
  job : ByteArray
  sent : Int
abbrev Req.vals (r : Req) : List Value := [.int .i64 r.state, .int .i64 r.mins, .int .i64 r.code, .string r.job, .int .i64 r.sent]
structure HubS where
  me : Int
  other : Int
  l : List Req
  frm : Nat
def lastR (l : List Req) : Int := match l.getLast? with
  | some r => r.run
  | none => 0
def HubS.low (h : HubS) : Int := match h.l[h.frm]? with
  | some r => r.run
  | none => lastR h.l + 1
def HubS.openN (h : HubS) : Nat := ((h.l.drop h.frm).filter fun r => r.state != 2).length
def startM (h : HubS) (r : Req) : Msg := ⟨h.me, h.other, 1, r.run, h.low, r.mins, r.code, r.job⟩
def isRunB (n : Int) : Bool := decide (1 ≤ n) && decide (n ≤ 2147483647)
def isClockB (n : Int) : Bool := decide (0 ≤ n) && decide (n ≤ 5258966399)
def argB (run mins : Int) (job : ByteArray) : Bool := isRunB run && decide (0 ≤ mins) && decide (mins ≤ 10080) && decide (0 < job.size) && decide (job.size ≤ 20)
def HubS.askE (h : HubS) (run mins : Int) (job : ByteArray) (clock : Int) : Int :=
  if argB run mins job then (if isClockB clock then (if lastR h.l < run then (if h.l.length - h.frm < 64 then 0 else 4) else 22) else 31) else 1
def HubS.add (h : HubS) (r : Req) : HubS := { h with l := h.l ++ [r] }
def sayM (me other kind run code : Int) : Msg := ⟨me, other, kind, run, 0, 0, code, ⟨#[]⟩⟩
def heardB (me other : Int) (kinds : List Int) (m : Msg) : Bool := rightB m && (m.frm == other) && (m.to_ == me) && kinds.contains m.kind
def findR (run : Int) (l : List Req) : Option Req := l.find? fun r => r.run == run
def setR (run st : Int) (l : List Req) : List Req := l.map fun r => if r.run = run then { r with state := st } else r
def advR (l : List Req) (k : Nat) : Nat := k + ((l.drop k).takeWhile fun r => r.state == 2).length
/-- what a hub's Take answers: the hub, messages, reports, an error -/
def HubS.take (h : HubS) (m : Msg) : HubS × List Msg × List (Int × Int) × Int :=
  if heardB h.me h.other [2, 3] m then
    match findR m.n h.l with
    | none => (h, [], [], 30)
    | some r =>
      if m.kind = 2 then ({ h with l := setR m.n (max r.state 1) h.l }, [], [], 0)
      else ({ h with l := setR m.n 2 h.l, frm := advR (setR m.n 2 h.l) h.frm }, [sayM h.me h.other 4 m.n 0], (if r.state = 2 then [] else [(m.n, m.code)]), 0)
  else (h, [], [], 1)
def againB (clock : Int) (r : Req) : Bool := (r.state == 0) && decide (5 ≤ clock - r.sent)
def HubS.tick (h : HubS) (clock : Int) : HubS × List Msg :=
  if isClockB clock then ({ h with l := h.l.take h.frm ++ (h.l.drop h.frm).map fun r => if againB clock r then { r with sent := clock } else r }, ((h.l.drop h.frm).filter (againB clock)).map (startM h))
  else (h, [])

/-! ### The agent -/
structure WorkS where
  run : Int
  over : Bool
  known : Bool
  fin : Int
  code : Int
  sent : Int
abbrev WorkS.vals (x : WorkS) : List Value := [.int .i64 x.run, .bool x.over, .bool x.known, .int .i64 x.fin, .int .i64 x.code, .int .i64 x.sent]
structure AgS where
  me : Int
  other : Int
  l : List WorkS
  low : Int
  begun : Nat
def posA (run : Int) (l : List WorkS) : Nat := (l.takeWhile fun x => decide (x.run < run)).length
def atA (run : Int) (l : List WorkS) : Option WorkS := match l[posA run l]? with
  | some x => if x.run = run then some x else none
  | none => none
def setA (l : List WorkS) (k : Nat) (x : WorkS) : List WorkS := l.set k x
def AgS.forget (a : AgS) (low : Int) : AgS := if a.low < low then { a with low := low, l := a.l.drop (posA low a.l) } else a
def insA (l : List WorkS) (k : Nat) (x : WorkS) : List WorkS := l.take k ++ x :: l.drop k
def AgS.start (a : AgS) (m : Msg) (clock : Int) : AgS × List Msg × Int :=
  if isRunB m.n && decide (m.mins ≤ 10080) then
    let b := a.forget m.low
    if m.n < b.low then (b, [], 0)
    else match atA m.n b.l with
      | some x => if x.over then ({ b with l := b.l.set (posA m.n b.l) { x with over := true, sent := clock } }, [sayM a.me a.other 3 x.run x.code], 0) else (b, [sayM a.me a.other 2 m.n 0], 0)
      | none => if 64 ≤ b.l.length then (b, [], 4) else ({ b with l := insA b.l (posA m.n b.l) ⟨m.n, false, false, clock + m.mins, m.code, 0⟩, begun := b.begun + 1 }, [sayM a.me a.other 2 m.n 0], 0)
  else (a, [], 1)
def AgS.take (a : AgS) (m : Msg) (clock : Int) : AgS × List Msg × Int :=
  if heardB a.me a.other [1, 4] m then
    if isClockB clock then
      if m.kind = 1 then a.start m clock
      else match atA m.n a.l with
        | some x => ({ a with l := a.l.set (posA m.n a.l) { x with known := x.over } }, [], 0)
        | none => (a, [], 0)
    else (a, [], 31)
  else (a, [], 1)
def tellB (clock : Int) (x : WorkS) : Bool := (!x.over && decide (x.fin ≤ clock)) || (x.over && !x.known && decide (5 ≤ clock - x.sent))
def AgS.tick (a : AgS) (clock : Int) : AgS × List Msg :=
  if isClockB clock then ({ a with l := a.l.map fun x => if tellB clock x then { x with over := true, sent := clock } else x }, (a.l.filter (tellB clock)).map fun x => sayM a.me a.other 3 x.run x.code)
  else (a, [])
/-- runs that rise -/
def SortedA (l : List WorkS) : Prop := l.Pairwise fun x y => x.run < y.run
end Go.Proofs.Ytohnchkoldbpcaa

/- Numbers as bytes; the sum of bytes (CRC-32): plain laws. -/
namespace Go.Proofs.Ytohnchkoldbpcaa
abbrev Bs := List UInt8
/-- a number's bytes, the lowest first -/
def leB : Nat → Nat → Bs
  | _, 0 => []
  | n, k + 1 => UInt8.ofNat n :: leB (n / 256) k
def leN : Bs → Nat
  | [] => 0
  | b :: l => b.toNat + 256 * leN l
theorem leB_length (n k : Nat) : (leB n k).length = k := by
  induction k generalizing n with
  | zero => rfl
  | succ k ih => simp [leB, ih]
theorem leB_succ (n k : Nat) : leB n (k + 1) = leB n k ++ [UInt8.ofNat (n / 256 ^ k)] := by
  induction k generalizing n with
  | zero => simp [leB]
  | succ k ih =>
    rw [leB, ih, leB, List.cons_append, Nat.div_div_eq_div_mul, Nat.pow_succ, Nat.mul_comm 256]
theorem leN_lt (l : Bs) : leN l < 256 ^ l.length := by
  induction l with
  | nil => simp [leN]
  | cons b l ih =>
    have := b.toNat_lt
    simp only [leN, List.length_cons, Nat.pow_succ]
    omega
theorem leN_leB (n k : Nat) : leN (leB n k) = n % 256 ^ k := by
  induction k generalizing n with
  | zero => simp [leB, leN, Nat.mod_one]
  | succ k ih =>
    have e : 256 ^ (k + 1) = 256 * 256 ^ k := by rw [Nat.pow_succ, Nat.mul_comm]
    have e2 : (UInt8.ofNat n).toNat = n % 256 := UInt8.toNat_ofNat'
    rw [leB, leN, ih, e2, e, Nat.mod_mul]
theorem leB_leN (l : Bs) : leB (leN l) l.length = l := by
  induction l with
  | nil => rfl
  | cons b l ih =>
    have := b.toNat_lt
    have h1 : (b.toNat + 256 * leN l) / 256 = leN l := by omega
    have h2 : UInt8.ofNat (b.toNat + 256 * leN l) = b := by
      apply UInt8.toNat_inj.1
      rw [UInt8.toNat_ofNat']
      omega
    rw [leN, List.length_cons, leB, h1, h2, ih]
theorem leN_inj {l k : Bs} (hl : l.length = k.length) (h : leN l = leN k) : l = k := by
  rw [← leB_leN l, ← leB_leN k, h, hl]
theorem leN_drop {l : Bs} {i : Nat} {b : UInt8} (h : l[i]? = some b) : leN (l.drop i) = b.toNat + 256 * leN (l.drop (i + 1)) := by
  have hi : i < l.length := by
    have := List.getElem?_eq_some_iff.1 h
    exact this.1
  rw [List.drop_eq_getElem_cons hi, leN]
  have : l[i] = b := by
    have := List.getElem?_eq_some_iff.1 h
    exact this.2
  rw [this]

/-! ### CRC -/
def poly : Nat := 3988292384
def crc1 (s : Nat) : Nat := (s / 2) ^^^ (poly * (s % 2))
def crc4 (s : Nat) : Nat := crc1 (crc1 (crc1 (crc1 s)))
def crcB (s : Nat) (c : Nat) : Nat := crc4 (crc4 (s ^^^ c))
def crcL (s : Nat) (l : Bs) : Nat := l.foldl (fun s c => crcB s c.toNat) s
def crc (l : Bs) : Nat := 4294967295 - crcL 4294967295 l
theorem xor_lt {a b : Nat} (ha : a < 4294967296) (hb : b < 4294967296) : a ^^^ b < 4294967296 := Nat.xor_lt_two_pow (n := 32) ha hb
theorem crc1_lt {s : Nat} (h : s < 4294967296) : crc1 s < 4294967296 := xor_lt (by omega) (by unfold poly; omega)
theorem crc4_lt {s : Nat} (h : s < 4294967296) : crc4 s < 4294967296 := crc1_lt (crc1_lt (crc1_lt (crc1_lt h)))
theorem crcB_lt {s : Nat} (h : s < 4294967296) (c : UInt8) : crcB s c.toNat < 4294967296 := crc4_lt (crc4_lt (xor_lt h (by have := c.toNat_lt; omega)))
theorem crcL_lt (l : Bs) : ∀ {s : Nat}, s < 4294967296 → crcL s l < 4294967296 := by
  induction l with
  | nil => exact fun h => h
  | cons c l ih => exact fun h => ih (crcB_lt h c)
theorem crc_lt (l : Bs) : crc l < 4294967296 := by unfold crc; omega
theorem xor_div2 (a b : Nat) : (a ^^^ b) / 2 = a / 2 ^^^ b / 2 := by
  have := Nat.shiftRight_xor_distrib (a := a) (b := b) (i := 1)
  simpa [Nat.shiftRight_eq_div_pow] using this
theorem xor_mod2 (a b : Nat) : (a ^^^ b) % 2 = a % 2 ^^^ b % 2 := by
  have := Nat.xor_mod_two_pow (a := a) (b := b) (n := 1)
  simpa using this
theorem crc1_xor (a b : Nat) : crc1 (a ^^^ b) = crc1 a ^^^ crc1 b := by
  unfold crc1
  rw [xor_div2, xor_mod2]
  have key : poly * (a % 2 ^^^ b % 2) = poly * (a % 2) ^^^ poly * (b % 2) := by
    rcases Nat.mod_two_eq_zero_or_one a with ha | ha <;> rcases Nat.mod_two_eq_zero_or_one b with hb | hb <;> simp [ha, hb]
  rw [key]
  simp only [Nat.xor_assoc]
  congr 1
  simp only [← Nat.xor_assoc]
  congr 1
  exact Nat.xor_comm _ _
theorem crc4_xor (a b : Nat) : crc4 (a ^^^ b) = crc4 a ^^^ crc4 b := by simp only [crc4, crc1_xor]
theorem crc1_even (n : Nat) : crc1 (2 * n) = n := by
  unfold crc1
  simp
theorem crc4_16 (n : Nat) : crc4 (16 * n) = n := by
  unfold crc4
  rw [show 16 * n = 2 * (2 * (2 * (2 * n))) by omega, crc1_even, crc1_even, crc1_even, crc1_even]
theorem split16 (s : Nat) : s = 16 * (s / 16) ^^^ s % 16 := by
  have h := Nat.two_pow_add_eq_or_of_lt (i := 4) (b := s % 16) (by omega) (s / 16)
  have h2 : 2 ^ 4 * (s / 16) + s % 16 = s := by omega
  have h3 : (2 ^ 4 * (s / 16)) ^^^ (s % 16) = 2 ^ 4 * (s / 16) ||| s % 16 := by
    apply Nat.eq_of_testBit_eq
    intro i
    rw [Nat.testBit_xor, Nat.testBit_or, Nat.testBit_two_pow_mul]
    by_cases hi : i ≥ 4
    · have : (s % 16).testBit i = false := Nat.testBit_lt_two_pow (Nat.lt_of_lt_of_le (show s % 16 < 2 ^ 4 by omega) (Nat.pow_le_pow_right (by omega) hi))
      simp [this]
    · simp [hi]
  rw [show (16 : Nat) * (s / 16) = 2 ^ 4 * (s / 16) by omega, h3, ← h, h2]
/-- half a byte at a time -/
theorem crc4_half (s : Nat) : crc4 s = s / 16 ^^^ crc4 (s % 16) := by
  conv => lhs; rw [split16 s, crc4_xor, crc4_16]
theorem crc1_inj {a b : Nat} (ha : a < 4294967296) (hb : b < 4294967296) (h : crc1 a = crc1 b) : a = b := by
  have top : ∀ s, s < 4294967296 → (crc1 s).testBit 31 = decide (s % 2 = 1) := by
    intro s hs
    unfold crc1
    rw [Nat.testBit_xor, Nat.testBit_lt_two_pow (show s / 2 < 2 ^ 31 by omega)]
    rcases Nat.mod_two_eq_zero_or_one s with h | h
    · simp [h]
    · rw [h]; decide
  have h1 := top a ha
  rw [h, top b hb] at h1
  have h2 : a % 2 = b % 2 := by
    rcases Nat.mod_two_eq_zero_or_one a with h3 | h3 <;> rcases Nat.mod_two_eq_zero_or_one b with h4 | h4 <;> simp [h3, h4] at h1 ⊢
  unfold crc1 at h
  rw [h2] at h
  have h3 : a / 2 = b / 2 := by
    have := congrArg (· ^^^ (poly * (b % 2))) h
    simpa [Nat.xor_assoc] using this
  omega
theorem crc4_inj {a b : Nat} (ha : a < 4294967296) (hb : b < 4294967296) (h : crc4 a = crc4 b) : a = b :=
  crc1_inj ha hb (crc1_inj (crc1_lt ha) (crc1_lt hb) (crc1_inj (crc1_lt (crc1_lt ha)) (crc1_lt (crc1_lt hb)) (crc1_inj (crc1_lt (crc1_lt (crc1_lt ha))) (crc1_lt (crc1_lt (crc1_lt hb))) h)))
theorem crcB_inj {a b c d : Nat} (ha : a < 4294967296) (hb : b < 4294967296) (hc : c < 256) (hd : d < 256) (h : crcB a c = crcB b d) : a ^^^ c = b ^^^ d := by
  have h1 := xor_lt ha (show c < 4294967296 by omega)
  have h2 := xor_lt hb (show d < 4294967296 by omega)
  exact crc4_inj h1 h2 (crc4_inj (crc4_lt h1) (crc4_lt h2) h)
theorem crcL_inj (l : Bs) : ∀ {a b : Nat}, a < 4294967296 → b < 4294967296 → crcL a l = crcL b l → a = b := by
  induction l with
  | nil => exact fun _ _ h => h
  | cons c l ih =>
    intro a b ha hb h
    have h1 := ih (crcB_lt ha c) (crcB_lt hb c) h
    have h2 := crcB_inj ha hb c.toNat_lt c.toNat_lt h1
    have := congrArg (· ^^^ c.toNat) h2
    simpa [Nat.xor_assoc] using this
theorem crcL_append (s : Nat) (l k : Bs) : crcL s (l ++ k) = crcL (crcL s l) k := by simp [crcL]
theorem crcL_set (l : Bs) (i : Nat) (c d : UInt8) (hi : l[i]? = some d) (hne : c ≠ d) : ∀ {s : Nat}, s < 4294967296 → crcL s (l.set i c) ≠ crcL s l := by
  induction l generalizing i with
  | nil => simp at hi
  | cons b l ih =>
    intro s hs h
    cases i with
    | zero =>
      simp only [List.getElem?_cons_zero, Option.some.injEq] at hi
      subst hi
      simp only [List.set_cons_zero] at h
      have h1 := crcL_inj l (crcB_lt hs c) (crcB_lt hs b) h
      have h2 := crcB_inj hs hs c.toNat_lt b.toNat_lt h1
      have h3 : c.toNat = b.toNat := by
        have := congrArg (s ^^^ ·) h2
        simpa [← Nat.xor_assoc] using this
      exact hne (UInt8.toNat_inj.1 h3)
    | succ i =>
      simp only [List.getElem?_cons_succ] at hi
      simp only [List.set_cons_succ] at h
      exact ih i hi (crcB_lt hs b) h
theorem crc_set {l : Bs} {i : Nat} {c d : UInt8} (hi : l[i]? = some d) (hne : c ≠ d) : crc (l.set i c) ≠ crc l := by
  intro h
  have h1 := crcL_set l i c d hi hne (s := 4294967295) (by omega)
  have h2 := crcL_lt l (s := 4294967295) (by omega)
  have h3 := crcL_lt (l.set i c) (s := 4294967295) (by omega)
  unfold crc at h
  omega
def crcI (s : Nat) : Nat → Nat
  | 0 => s
  | k + 1 => crc1 (crcI s k)
theorem crcI_lt {s : Nat} (h : s < 4294967296) : ∀ k, crcI s k < 4294967296
  | 0 => h
  | k + 1 => crc1_lt (crcI_lt h k)
theorem crc4_eq (s : Nat) : crc4 s = crc1 (crc1 (crc1 (crc1 s))) := rfl
theorem crcB_two (s b : Nat) : crcB s b = crc4 (crc4 (s ^^^ b)) := rfl
theorem crcB_eq (s b : Nat) : crcB s b = crcI (s ^^^ b) 8 := rfl
theorem crcI_succ (s k : Nat) : crcI s (k + 1) = crc1 (crcI s k) := rfl
theorem crcI_zero (s : Nat) : crcI s 0 = s := rfl
theorem crc_def (l : Bs) : crc l = 4294967295 - crcL 4294967295 l := rfl
theorem crcL_nil (s : Nat) : crcL s [] = s := rfl
theorem crc1_odd {s : Nat} (h : s % 2 = 1) : crc1 s = s / 2 ^^^ 3988292384 := by unfold crc1; rw [h]; rfl
theorem crc1_ev {s : Nat} (h : s % 2 = 0) : crc1 s = s / 2 := by unfold crc1; rw [h]; simp
theorem crcL_take {l : Bs} {i : Nat} {b : UInt8} (s : Nat) (h : l[i]? = some b) : crcL s (l.take (i + 1)) = crcB (crcL s (l.take i)) b.toNat := by
  rw [List.take_add_one, h, crcL_append]
  rfl
attribute [irreducible] crc1 crc4 crcB crcL crcI crc
end Go.Proofs.Ytohnchkoldbpcaa

/- wire: Twice, First, Drain, List, New. -/
namespace Go.Proofs.Ytohnchkoldbpcaa
open Go Go.RowKit Go.Proofs

def twiceE (l : List Msg) (i : Int) : Int := if inL i l.length then (if 64 ≤ l.length then 4 else 0) else 30
def twiceL (l : List Msg) (i : Int) : List Msg := if inL i l.length then (if 64 ≤ l.length then l else match l[i.toNat]? with | some x => l ++ [x] | none => l) else l
set_option maxRecDepth 100000 in
set_option maxHeartbeats 2000000 in
theorem twice_any (p m : Nat) (l : List Msg) (C : Cuts) (i : Int) (w : World) (h : NetAt w p m l C) :
    Calls Try.prog 37 #[.pointer (some ⟨p, 0, none⟩), .int .i64 i] w fun e w' => e = .returned (.int .i64 (twiceE l i)) ∧ NetAt w' p m (twiceL l i) C ∧ Fr (· = p) w w' := by
  have H := Lib.hid h
  clear h
  cases hi : inL i l.length with
  | false =>
    have e : twiceE l i = 30 := by simp [twiceE, hi]
    have e2 : twiceL l i = l := by simp [twiceL, hi]
    rw [e, e2]
    have HI := Lib.hid hi
    clear hi e e2
    go_enter Try.func37, Try.ntmps37
    go_wp2_with (go_at_call 48; refine (at_bad p m l C _ _ H.out HI.out).mono ?_; rintro e w1 ⟨rfl, hf1⟩)
    go_ret
    exact ⟨rfl, H.out.fr0 hf1, hf1.any _⟩
  | true =>
    have hi' := hi
    simp only [inL, Bool.and_eq_true, decide_eq_true_eq] at hi'
    obtain ⟨k, rfl⟩ := Int.eq_ofNat_of_zero_le hi'.1
    have hk : k < l.length := by omega
    have i1 : (0 : Int) ≤ (k : Int) := by omega
    have i2 : (k : Int) < (l.length : Int) := by omega
    have hx : l[k]? = some l[k] := List.getElem?_eq_getElem hk
    by_cases hn : 64 ≤ l.length
    · have e : twiceE l k = 4 := by simp [twiceE, hi, hn]
      have e2 : twiceL l k = l := by simp [twiceL, hi, hn]
      rw [e, e2]
      generalize l[k] = x at hx
      have HX := Lib.hid hx
      have HN := Lib.hid hn
      clear hi e e2 hi' hx hn
      go_enter Try.func37, Try.ntmps37
      go_wp2_with (first
        | (go_at_call 48; refine (at_ok p m l C k _ H.out hk).mono ?_; rintro e w1 ⟨rfl, hf1⟩
           have N1 := Lib.hid (H.out.fr0 hf1)
           obtain ⟨A, cp, hB, hS, hcp, hM⟩ := N1.out
           obtain ⟨b, o, rfl, hb, ⟨m0, m1, m2, m3, m4, m5, m6, m7⟩⟩ := msg_cells hS HX.out
           have h0 := hB.cell 0
           simp only [List.getElem?_cons_zero] at h0
           clear hS hM hB)
        | (go_at_call 50; refine (add_full p m l C x _ N1.out HN.out).mono ?_; rintro e w3 ⟨rfl, hf3⟩))
      go_ret
      exact ⟨rfl, N1.out.fr0 hf3, (hf1.trans hf3).any _⟩
    · have e : twiceE l k = 0 := by simp [twiceE, hi, hn]
      have e2 : twiceL l k = l ++ [l[k]] := by simp [twiceL, hi, hn, hx]
      rw [e, e2]
      generalize l[k] = x at hx
      have HX := Lib.hid hx
      have HN := Lib.hid hn
      clear hi e e2 hi' hx hn
      go_enter Try.func37, Try.ntmps37
      go_wp2_with (first
        | (go_at_call 48; refine (at_ok p m l C k _ H.out hk).mono ?_; rintro e w1 ⟨rfl, hf1⟩
           have N1 := Lib.hid (H.out.fr0 hf1)
           obtain ⟨A, cp, hB, hS, hcp, hM⟩ := N1.out
           obtain ⟨b, o, rfl, hb, ⟨m0, m1, m2, m3, m4, m5, m6, m7⟩⟩ := msg_cells hS HX.out
           have h0 := hB.cell 0
           simp only [List.getElem?_cons_zero] at h0
           clear hS hM hB)
        | (go_at_call 50; refine (add_room p m l C x _ N1.out (Nat.lt_of_not_le HN.out)).mono ?_; rintro e w3 ⟨rfl, hn3, hf3⟩))
      go_ret
      exact ⟨rfl, hn3, (hf1.any _).trans hf3⟩

/-! ### First -/
def goesAt (C : Cuts) : List Msg → Nat → Int
  | [], _ => -1
  | x :: r, k => if cutV C x then goesAt C r (k + 1) else k
def firstI (l : List Msg) (C : Cuts) : Int := goesAt C l 0
def IdxRel (w0 : World) (l : List Msg) (C : Cuts) (i : Value) (w : World) : Prop :=
  ∃ k : Nat, k ≤ l.length ∧ i = .int .i64 k ∧ firstI l C = goesAt C (l.drop k) k ∧ Fr No w0 w
/-! ### New -/
theorem new_any (w : World) :
    Calls Try.prog 33 #[] w fun e w' => ∃ p m, e = .returned (.pointer (some ⟨p, 0, none⟩)) ∧ w.heap.size ≤ p ∧ w.heap.size ≤ m ∧ NetAt w' p m [] [] ∧ Fr No w w' := by
  have hmm := @run_makeMap Try.prog
  go_enter Try.func33, Try.ntmps33
  go_wp2
  go_ret
  refine ⟨w.heap.size + 1, w.heap.size, rfl, by omega, Nat.le_refl _, ⟨none, 0, ?_, Sl.nil _ _ _ _, Nat.le_refl _, (MapAt.new w encLink).alloc _⟩, by (repeat (first | exact Fr.refl _ _ | assumption | refine Fr.drew ?_ | refine Fr.drewL ?_ | refine Fr.alloc ?_ _))⟩
  have := Blk.new (w.alloc (.map #[] 0)) 93 [.slice none 0 0, .map (some w.heap.size)]
  simpa using this
end Go.Proofs.Ytohnchkoldbpcaa

/- wire: the law's own helpers: given, Count, known. -/
namespace Go.Proofs.Ytohnchkoldbpcaa
open Go Go.RowKit Go.Proofs

def countI (k n : Int) : Int := if n < 1 then 0 else k % n
theorem count_any (k n : Int) (w : World) (hk : -9223372036854775808 ≤ k) (hk' : k ≤ 9223372036854775807) (hn : 0 < n) (hn' : n ≤ 2147483648) :
    Calls Try.prog 34 #[.int .i64 k, .int .i64 n] w fun e w' => e = .returned (.int .i64 (countI k n)) ∧ Fr No w w' := by
  have e : countI k n = k % n := by simp [countI]; omega
  rw [e]
  clear e
  have h1 := Int.emod_nonneg k (show n ≠ 0 by omega)
  have h2 := Int.emod_lt_of_pos k hn
  by_cases hp : 0 ≤ k
  · go_enter Try.func34, Try.ntmps34
    go_wp2
    go_ret
    exact ⟨rfl, Fr.refl _ _⟩
  · have hp' : k < 0 := by omega
    have h1' : ¬ n < 1 := by omega
    go_enter Try.func34, Try.ntmps34
    have ht : k.tmod n = k % n ∨ k.tmod n = k % n - n := by
      have := Int.tmod_eq_emod (a := k) (b := n)
      have hna : (n.natAbs : Int) = n := by omega
      split at this <;> omega
    have HT := Lib.hid ht
    clear ht
    go_wp2
    all_goals go_ret
    · exact ⟨ret_int (by have := HT.out; unfold wrap64; omega), Fr.refl _ _⟩
    · exact ⟨ret_int (by have := HT.out; omega), Fr.refl _ _⟩

/-! ### what must come of fixed calls -/
abbrev k0 : Msg := ⟨0, 1, 1, 5, 0, 0, 0, ByteArray.empty⟩
end Go.Proofs.Ytohnchkoldbpcaa

/- wire: Drain. -/
namespace Go.Proofs.Ytohnchkoldbpcaa
open Go Go.RowKit Go.Proofs

theorem own_fr {S : Nat → Prop} {w w' : World} {base n size : Nat} {e : TypeId} {v : Value} {xs : List Value} (h : w.ownsRow base e size v n xs) (hf : Fr S w w') (hS : ∀ k, v.ownBlock = some k → ¬ S k) : w'.ownsRow base e size v n xs := by
  refine ⟨h.1, ?_⟩
  rcases h.2 with h0 | ⟨g, cap, cur, rfl, h1, h2, h3⟩
  · exact .inl h0
  · exact .inr ⟨g, cap, cur, rfl, h1, (hf.block g (lt_of_heap h2) (hS g rfl)).trans h2, h3⟩
theorem own_fr0 {w w' : World} {base n size : Nat} {e : TypeId} {v : Value} {xs : List Value} (h : w.ownsRow base e size v n xs) (hf : Fr No w w') : w'.ownsRow base e size v n xs := own_fr h hf fun _ _ h => h
theorem own_size {w : World} {base n size : Nat} {e : TypeId} {v : Value} {xs : List Value} (h : w.ownsRow base e size v n xs) (k : Nat) (hk : v.ownBlock = some k) : base ≤ k ∧ k < w.heap.size := by
  rcases h.2 with ⟨rfl, _⟩ | ⟨g, cap, cur, rfl, h1, h2, h3⟩
  · cases hk
  · simp only [Value.ownBlock, Option.some.injEq] at hk
    subst hk
    exact ⟨h1, lt_of_heap h2⟩

/-- two rows of one call, each its own -/
structure Two (w0 : World) (u v : Value) (xs ys : List Msg) (w : World) : Prop where
  one : w.ownsRow w0.heap.size 26 8 u xs.length (xs.flatMap Msg.vals)
  two : w.ownsRow w0.heap.size 26 8 v ys.length (ys.flatMap Msg.vals)
  ne : ∀ k, u.ownBlock = some k → v.ownBlock = some k → False
  fr : Fr No w0 w
section
variable {w0 w w' : World} {u u' v v' : Value} {xs ys : List Msg} {x : Msg}
theorem Two.symm (h : Two w0 u v xs ys w) : Two w0 v u ys xs w := ⟨h.two, h.one, fun k h1 h2 => h.ne k h2 h1, h.fr⟩
theorem Two.fr0 (h : Two w0 u v xs ys w) (hf : Fr No w w') : Two w0 u v xs ys w' := ⟨own_fr0 h.one hf, own_fr0 h.two hf, h.ne, h.fr.trans hf⟩
theorem Two.start (w0 : World) : Two w0 (.slice none 0 0) (.slice none 0 0) [] [] w0 := ⟨⟨rfl, .inl ⟨rfl, rfl⟩⟩, ⟨rfl, .inl ⟨rfl, rfl⟩⟩, fun k h => (by cases h), Fr.refl _ _⟩
theorem Two.grow (h : Two w0 u v xs ys w) (ho : w'.ownsRow w0.heap.size 26 8 u' (xs.length + 1) (xs.flatMap Msg.vals ++ x.vals)) (hg : w.grownBy w' u.ownBlock) (hat : u'.ownBlock = u.ownBlock ∨ u'.ownBlock = some w.heap.size) :
    Two w0 u' v (xs ++ [x]) ys w' := by
  refine ⟨?_, own_fr h.two (Fr.of_grown hg) (fun k hk e => h.ne k e.symm hk), fun k h1 h2 => ?_, h.fr.grown hg (fun k hk => .inr (own_size h.one k hk).1)⟩
  · rw [vals_snoc]
    simpa using ho
  · rcases hat with e | e
    · exact h.ne k (e ▸ h1) h2
    · have := (own_size h.two k h2).2
      rw [e] at h1
      injection h1 with h1
      omega
end

def drainT (C : Cuts) (i : Int) (x : Msg) : Bool := x.to_ == i && !cutV C x
def drainC (l : List Msg) (C : Cuts) (i : Int) : List Msg := if 0 ≤ i ∧ i < 8 then l.filter (drainT C i) else []
def drainL (l : List Msg) (C : Cuts) (i : Int) : List Msg := if 0 ≤ i ∧ i < 8 then l.filter (fun x => !drainT C i x) else l
def drainE (i : Int) : Int := if 0 ≤ i ∧ i < 8 then 0 else 1
def DRel (w0 : World) (l : List Msg) (C : Cuts) (i : Int) (g : Nat) (v6 v7 v25 : Value) (w : World) : Prop :=
  ∃ k : Nat, k + g = l.length ∧ v25 = .int .i64 k ∧ ∃ u v, u = v6 ∧ v = v7 ∧ Two w0 u v ((l.take k).filter (drainT C i)) ((l.take k).filter (fun x => !drainT C i x)) w
theorem take_succ_filter {l : List Msg} {k : Nat} {x : Msg} (hx : l[k]? = some x) (f : Msg → Bool) : (l.take (k + 1)).filter f = (l.take k).filter f ++ (if f x then [x] else []) := by
  rw [List.take_add_one, hx, List.filter_append]
  cases h : f x <;> simp [h]
theorem DRel.step {w0 w' : World} {l : List Msg} {C : Cuts} {i : Int} {k : Nat} {x : Msg} {u v : Value} (hk : k < l.length) (hx : l[k]? = some x)
    (h : Two w0 u v ((l.take (k + 1)).filter (drainT C i)) ((l.take (k + 1)).filter (fun x => !drainT C i x)) w') : DRel w0 l C i (l.length - (k + 1)) u v (.int .i64 ((k : Int) + 1)) w' :=
  ⟨k + 1, by omega, by go_num, u, v, rfl, rfl, h⟩

end Go.Proofs.Ytohnchkoldbpcaa

/- WireOnce: the plain law. -/
namespace Go.Proofs.Ytohnchkoldbpcaa
open Go Go.RowKit

def ns (l : List Msg) : List Int := l.map Msg.n
structure Good (s : Int) (lost : Nat) (xs : List Int) : Prop where
  once : xs.Nodup
  each : ∀ v ∈ xs, 1 ≤ v ∧ v ≤ s
  count : s = ((xs.length + lost : Nat) : Int)
theorem Good.perm {s : Int} {lost : Nat} {xs ys : List Int} (h : Good s lost xs) (hp : xs.Perm ys) : Good s lost ys :=
  ⟨hp.nodup_iff.1 h.once, fun v hv => h.each v (hp.mem_iff.2 hv), by rw [← hp.length_eq]; exact h.count⟩
structure ONInv (s : Int) (l : List Msg) (seen : List Int) (lost : Nat) : Prop where
  few : l.length ≤ 64
  good : Good s lost (ns l ++ seen)
theorem ONInv.start : ONInv 0 [] [] 0 := ⟨by simp, by simp [ns], by simp [ns], by simp [ns]⟩
theorem ONInv.send {s : Int} {l : List Msg} {seen : List Int} {lost : Nat} (h : ONInv s l seen lost) {x : Msg} (hx : x.n = s + 1) (hn : l.length < 64) : ONInv (s + 1) (l ++ [x]) seen lost := by
  refine ⟨by simp; omega, ?_⟩
  have hp : ((s + 1) :: (ns l ++ seen)).Perm (ns (l ++ [x]) ++ seen) := by
    simp only [ns, List.map_append, List.map_cons, List.map_nil, hx, List.append_assoc, List.cons_append, List.nil_append]
    exact List.perm_middle.symm
  refine Good.perm ⟨?_, ?_, ?_⟩ hp
  · refine List.nodup_cons.2 ⟨fun hm => ?_, h.good.once⟩
    have := (h.good.each _ hm).2
    omega
  · intro v hv
    have hc := h.good.count
    rcases List.mem_cons.1 hv with rfl | hv
    · omega
    · have := h.good.each v hv
      omega
  · have := h.good.count
    simp only [List.length_cons]
    omega
theorem perm_erase {l : List Msg} {k : Nat} {x : Msg} (hx : l[k]? = some x) : (x :: l.eraseIdx k).Perm l := by
  induction l generalizing k with
  | nil => simp at hx
  | cons m l ih =>
    cases k with
    | zero =>
      simp only [List.getElem?_cons_zero, Option.some.injEq] at hx
      subst hx
      exact List.Perm.refl _
    | succ k =>
      simp only [List.getElem?_cons_succ] at hx
      exact (List.Perm.swap m x (l.eraseIdx k)).trans ((ih hx).cons m)
theorem ONInv.take {s : Int} {l : List Msg} {seen : List Int} {lost : Nat} (h : ONInv s l seen lost) {k : Nat} {x : Msg} (hx : l[k]? = some x) : ONInv s (l.eraseIdx k) (seen ++ [x.n]) lost := by
  refine ⟨by rw [List.length_eraseIdx]; have := h.few; split <;> omega, h.good.perm ?_⟩
  have h1 : (ns l).Perm (x.n :: ns (l.eraseIdx k)) := ((perm_erase hx).map Msg.n).symm
  refine (h1.append_right seen).trans ?_
  rw [← List.append_assoc]
  exact (List.perm_append_singleton x.n (ns (l.eraseIdx k) ++ seen)).symm
theorem ONInv.lose {s : Int} {l : List Msg} {seen : List Int} {lost : Nat} (h : ONInv s l seen lost) {k : Nat} {x : Msg} (hx : l[k]? = some x) : ONInv s (l.eraseIdx k) seen (lost + 1) := by
  refine ⟨by rw [List.length_eraseIdx]; have := h.few; split <;> omega, ?_⟩
  have h1 : (ns l).Perm (x.n :: ns (l.eraseIdx k)) := ((perm_erase hx).map Msg.n).symm
  have h2 := h.good.perm (h1.append_right seen)
  refine ⟨(List.nodup_cons.1 h2.once).2, fun v hv => h2.each v (List.mem_cons_of_mem _ hv), ?_⟩
  have := h2.count
  simp only [List.cons_append, List.length_cons] at this
  omega
theorem perm_filter (f : Msg → Bool) (l : List Msg) : (l.filter f ++ l.filter (fun x => !f x)).Perm l := by
  induction l with
  | nil => exact List.Perm.refl _
  | cons m l ih =>
    cases h : f m
    · simp only [List.filter_cons, h, Bool.false_eq_true, if_false, Bool.not_false, if_true]
      exact List.perm_middle.trans (ih.cons m)
    · simp only [List.filter_cons, h, if_true, Bool.not_true, Bool.false_eq_true, if_false, List.cons_append]
      exact ih.cons m
theorem ONInv.drain {s : Int} {l : List Msg} {seen : List Int} {lost : Nat} (h : ONInv s l seen lost) (C : Cuts) (i : Int) : ONInv s (drainL l C i) (seen ++ ns (drainC l C i)) lost := by
  unfold drainL drainC
  split
  · refine ⟨Nat.le_trans (List.length_filter_le _ _) h.few, h.good.perm ?_⟩
    have h1 : (ns l).Perm (ns (l.filter fun x => !drainT C i x) ++ ns (l.filter (drainT C i))) := by
      rw [ns, ns, ns, ← List.map_append]
      exact (((perm_filter (drainT C i) l).symm).trans List.perm_append_comm).map _
    refine (h1.append_right seen).trans ?_
    rw [List.append_assoc]
    exact List.Perm.append_left _ List.perm_append_comm
  · simpa [ns] using h
theorem ONInv.ends {s : Int} {l : List Msg} {seen : List Int} {lost : Nat} (h : ONInv s l seen lost) : ((seen.length + lost + l.length : Nat) : Int) = s ∧ (∀ v ∈ seen, 1 ≤ v ∧ v ≤ s) ∧ seen.Nodup := by
  refine ⟨?_, fun v hv => h.good.each v (List.mem_append_right _ hv), (List.nodup_append.1 h.good.once).2.1⟩
  have := h.good.count
  simp only [List.length_append, ns, List.length_map] at this
  omega
end Go.Proofs.Ytohnchkoldbpcaa

/- WireOnce: the walk. -/
namespace Go.Proofs.Ytohnchkoldbpcaa
open Go Go.RowKit Go.Proofs

structure AAct where
  kind : Int
  m : Msg
  i : Int
  j : Int
abbrev AAct.vals (a : AAct) : List Value := [.int .i64 a.kind, .int .i64 a.m.frm, .int .i64 a.m.to_, .int .i64 a.m.kind, .int .i64 a.m.n, .int .i64 a.m.low, .int .i64 a.m.mins, .int .i64 a.m.code, .string a.m.text, .int .i64 a.i, .int .i64 a.j]
theorem act_vals_at {l : List AAct} {k : Nat} {x : AAct} (hx : l[k]? = some x) (j : Nat) (hj : j < 11) : (l.flatMap AAct.vals)[k * 11 + j]? = x.vals[j]? := by
  induction l generalizing k with
  | nil => simp at hx
  | cons m l ih =>
    cases k with
    | zero =>
      simp only [List.getElem?_cons_zero, Option.some.injEq] at hx
      subst hx
      simp only [List.flatMap_cons, Nat.zero_mul, Nat.zero_add]
      rw [List.getElem?_append_left (by simpa using hj)]
    | succ k =>
      simp only [List.getElem?_cons_succ] at hx
      have e : (k + 1) * 11 + j = (k * 11 + j) + 11 := by omega
      rw [e]
      simp only [List.flatMap_cons]
      rw [List.getElem?_append_right (by simp)]
      simpa using ih hx
structure ActCells (w : World) (b o : Nat) (x : AAct) : Prop where
  c0 : w.cell? ⟨b, o, none⟩ = some (.int .i64 x.kind)
  c1 : w.cell? ⟨b, o + 1, none⟩ = some (.int .i64 x.m.frm)
  c2 : w.cell? ⟨b, o + 2, none⟩ = some (.int .i64 x.m.to_)
  c3 : w.cell? ⟨b, o + 3, none⟩ = some (.int .i64 x.m.kind)
  c4 : w.cell? ⟨b, o + 4, none⟩ = some (.int .i64 x.m.n)
  c5 : w.cell? ⟨b, o + 5, none⟩ = some (.int .i64 x.m.low)
  c6 : w.cell? ⟨b, o + 6, none⟩ = some (.int .i64 x.m.mins)
  c7 : w.cell? ⟨b, o + 7, none⟩ = some (.int .i64 x.m.code)
  c8 : w.cell? ⟨b, o + 8, none⟩ = some (.string x.m.text)
  c9 : w.cell? ⟨b, o + 9, none⟩ = some (.int .i64 x.i)
  c10 : w.cell? ⟨b, o + 10, none⟩ = some (.int .i64 x.j)
theorem act_cells {w : World} {t : TypeId} {A : Option Addr} {n : Nat} {l : List AAct} (h : Sl w t 11 A n (l.flatMap AAct.vals)) {k : Nat} {x : AAct} (hx : l[k]? = some x) :
    ∃ b o, A = some ⟨b, o, none⟩ ∧ b < w.heap.size ∧ ActCells w b (o + k * 11) x := by
  have hn : 0 < n := by
    rcases Nat.eq_zero_or_pos n with h0 | h0
    · subst h0
      have := act_vals_at hx 0 (by omega)
      rw [h.of_zero] at this
      cases this
    · exact h0
  obtain ⟨b, o, rfl, hb, hc, _⟩ := h.cells hn
  have key : ∀ j u, j < 11 → x.vals[j]? = some u → w.cell? ⟨b, o + k * 11 + j, none⟩ = some u := fun j u hj hu => by
    rw [Nat.add_assoc]
    exact hc _ u ((act_vals_at hx j hj).trans hu)
  exact ⟨b, o, rfl, hb, key 0 _ (by omega) rfl, key 1 _ (by omega) rfl, key 2 _ (by omega) rfl, key 3 _ (by omega) rfl, key 4 _ (by omega) rfl, key 5 _ (by omega) rfl, key 6 _ (by omega) rfl, key 7 _ (by omega) rfl, key 8 _ (by omega) rfl, key 9 _ (by omega) rfl, key 10 _ (by omega) rfl⟩

def encN (l : List Int) : List Value := l.map (Value.int .i64)
theorem encN_len (l : List Int) : (encN l).length = l.length := List.length_map ..
theorem encN_snoc (l : List Int) (v : Int) : encN (l ++ [v]) = encN l ++ [.int .i64 v] := by simp [encN]
/-- the state between two acts; v: the slice of those seen -/
structure NSt (w0 : World) (p m : Nat) (s : Int) (C : Cuts) (l : List Msg) (seen : List Int) (lost : Nat) (v : Value) (w : World) : Prop where
  net : NetAt w p m l C
  row : w.ownsRow w0.heap.size 2 1 v seen.length (encN seen)
  inv : ONInv s l seen lost
  fr : Fr No w0 w
  hp : w0.heap.size ≤ p
  hm : w0.heap.size ≤ m
section
variable {w0 w w' : World} {p m lost : Nat} {s : Int} {C C' : Cuts} {l l' : List Msg} {seen seen' : List Int} {v v' : Value}
theorem row_type {w : World} {base n size : Nat} {e : TypeId} {v : Value} {xs : List Value} (h : w.ownsRow base e size v n xs) (k : Nat) (hk : v.ownBlock = some k) : ∃ cur, w.heap[k]? = some (Obj.cells cur e (0, 0)) := by
  rcases h.2 with ⟨rfl, _⟩ | ⟨g, cap, cur, rfl, h1, h2, h3⟩
  · cases hk
  · simp only [Value.ownBlock, Option.some.injEq] at hk
    subst hk
    exact ⟨cur, h2⟩
theorem NSt.row_p (h : NSt w0 p m s C l seen lost v w) (k : Nat) (hk : v.ownBlock = some k) : k ≠ p := by
  rintro rfl
  obtain ⟨cur, hc⟩ := row_type h.row k hk
  obtain ⟨A, c, hB, _⟩ := h.net
  unfold Blk at hB
  rw [hc] at hB
  injection hB with hB
  injection hB with _ ht
  exact absurd ht (by decide)
theorem NSt.row_m (h : NSt w0 p m s C l seen lost v w) (k : Nat) (hk : v.ownBlock = some k) : k ≠ m := by
  rintro rfl
  obtain ⟨cur, hc⟩ := row_type h.row k hk
  obtain ⟨_, _, _, _, _, hM⟩ := h.net
  exact hM.not_cells _ _ _ hc
theorem NSt.fr0 (h : NSt w0 p m s C l seen lost v w) (hf : Fr No w w') : NSt w0 p m s C l seen lost v w' := ⟨h.net.fr0 hf, own_fr0 h.row hf, h.inv, h.fr.trans hf, h.hp, h.hm⟩
/-- behind a call that changed the net -/
theorem NSt.netp (h : NSt w0 p m s C l seen lost v w) (hf : Fr (· = p) w w') (hn : NetAt w' p m l' C') {s' : Int} {lost' : Nat} (hi : ONInv s' l' seen lost') : NSt w0 p m s' C' l' seen lost' v w' :=
  ⟨hn, own_fr h.row hf (fun k hk => h.row_p k hk), hi, h.fr.step hf (fun i hi => .inr (hi ▸ h.hp)), h.hp, h.hm⟩
theorem NSt.netm (h : NSt w0 p m s C l seen lost v w) (hf : Fr (· = m) w w') (hn : NetAt w' p m l C') : NSt w0 p m s C' l seen lost v w' :=
  ⟨hn, own_fr h.row hf (fun k hk => h.row_m k hk), h.inv, h.fr.step hf (fun i hi => .inr (hi ▸ h.hm)), h.hp, h.hm⟩
end
/-- the same, where the list of those seen is behind the net's -/
structure NSt' (w0 : World) (p m : Nat) (C : Cuts) (l : List Msg) (seen : List Int) (v : Value) (w : World) : Prop where
  net : NetAt w p m l C
  row : w.ownsRow w0.heap.size 2 1 v seen.length (encN seen)
  fr : Fr No w0 w
  hp : w0.heap.size ≤ p
  hm : w0.heap.size ≤ m
section
variable {w0 w w' : World} {p m lost : Nat} {s : Int} {C C' : Cuts} {l l' : List Msg} {seen seen' : List Int} {v v' : Value}
theorem NSt.weak (h : NSt w0 p m s C l seen lost v w) : NSt' w0 p m C l seen v w := ⟨h.net, h.row, h.fr, h.hp, h.hm⟩
theorem NSt'.full (h : NSt' w0 p m C l seen v w) (hi : ONInv s l seen lost) : NSt w0 p m s C l seen lost v w := ⟨h.net, h.row, hi, h.fr, h.hp, h.hm⟩
theorem NSt'.fr0 (h : NSt' w0 p m C l seen v w) (hf : Fr No w w') : NSt' w0 p m C l seen v w' := ⟨h.net.fr0 hf, own_fr0 h.row hf, h.fr.trans hf, h.hp, h.hm⟩
theorem NSt'.netp (h : NSt' w0 p m C l seen v w) (hf : Fr (· = p) w w') (hn : NetAt w' p m l' C') : NSt' w0 p m C' l' seen v w' := by
  refine ⟨hn, own_fr h.row hf (fun k hk => ?_), h.fr.step hf (fun i hi => .inr (hi ▸ h.hp)), h.hp, h.hm⟩
  rintro rfl
  obtain ⟨cur, hc⟩ := row_type h.row k hk
  obtain ⟨A, c, hB, _⟩ := h.net
  unfold Blk at hB
  rw [hc] at hB
  injection hB with hB
  injection hB with _ ht
  exact absurd ht (by decide)
theorem NSt'.grow (h : NSt' w0 p m C l seen v w) {x : Int} (ho : w'.ownsRow w0.heap.size 2 1 v' (seen.length + 1) (encN seen ++ [.int .i64 x])) (hg : w.grownBy w' v.ownBlock) : NSt' w0 p m C l (seen ++ [x]) v' w' := by
  have hne : ∀ k, v.ownBlock = some k → ∃ cur, w.heap[k]? = some (Obj.cells cur 2 (0, 0)) := row_type h.row
  refine ⟨h.net.fr (Fr.of_grown hg) ?_ ?_ ?_, ?_, h.fr.grown hg (fun k hk => .inr (own_size h.row k hk).1), h.hp, h.hm⟩
  · intro e
    obtain ⟨cur, hc⟩ := hne p e.symm
    obtain ⟨A, c, hB, _⟩ := h.net
    unfold Blk at hB
    rw [hc] at hB
    injection hB with hB
    injection hB with _ ht
    exact absurd ht (by decide)
  · intro e
    obtain ⟨cur, hc⟩ := hne m e.symm
    obtain ⟨_, _, _, _, _, hM⟩ := h.net
    exact hM.not_cells _ _ _ hc
  · intro b cur fr hb e
    obtain ⟨cur', hc⟩ := hne b e.symm
    rw [hc] at hb
    injection hb with hb
    injection hb with _ ht
    exact absurd ht (by decide)
  · rw [encN_snoc, List.length_append]
    exact ho
end
theorem takeR_cases (l : List Msg) (C : Cuts) (i : Int) : (∃ k x, l[k]? = some x ∧ takeR l C i = (x, 0, l.eraseIdx k)) ∨ (∃ e, e ≠ 0 ∧ takeR l C i = (zeroMsg, e, l)) := by
  unfold takeR
  split
  · split
    · rename_i x hx
      split
      · exact .inr ⟨5, by omega, rfl⟩
      · exact .inl ⟨_, _, hx, rfl⟩
    · exact .inr ⟨30, by omega, rfl⟩
  · exact .inr ⟨30, by omega, rfl⟩
theorem lose_cases (l : List Msg) (i : Int) : (∃ k x, l[k]? = some x ∧ atE i l.length = 0 ∧ (if inL i l.length then l.eraseIdx i.toNat else l) = l.eraseIdx k) ∨ (atE i l.length = 30 ∧ (if inL i l.length then l.eraseIdx i.toNat else l) = l) := by
  cases h : inL i l.length with
  | false => exact .inr ⟨by simp [atE, h], by simp⟩
  | true =>
    simp only [inL, Bool.and_eq_true, decide_eq_true_eq] at h
    exact .inl ⟨i.toNat, _, List.getElem?_eq_getElem (by omega), by simp [atE, inL, h], by simp⟩
def WRel (w0 : World) (p m g : Nat) (v4 v5 v6 v7 : Value) (wr : World) : Prop :=
  ∃ (k : Nat) (s : Int) (C : Cuts) (l : List Msg) (seen : List Int) (lost : Nat) (v : Value), k + g = 120 ∧ v7 = .int .i64 k ∧ v4 = .int .i64 s ∧ v = v5 ∧ v6 = .int .i64 lost ∧ s ≤ k ∧ NSt w0 p m s C l seen lost v wr
end Go.Proofs.Ytohnchkoldbpcaa

/- Rows of bytes of the call's own; strings as bytes. -/
namespace Go.Proofs.Ytohnchkoldbpcaa
open Go Go.RowKit Go.Proofs

def enc8 (l : Bs) : List Value := l.map fun b => .int .u8 (b.toNat : Int)
theorem enc8_length (l : Bs) : (enc8 l).length = l.length := List.length_map ..
theorem enc8_append (l k : Bs) : enc8 (l ++ k) = enc8 l ++ enc8 k := List.map_append
theorem enc8_one (l : Bs) : ∀ u ∈ enc8 l, u.oneCell' = true := by
  intro u hu
  simp only [enc8, List.mem_map] at hu
  obtain ⟨b, _, rfl⟩ := hu
  rfl
theorem enc8_get {l : Bs} {j : Nat} {b : UInt8} (h : l[j]? = some b) : (enc8 l)[j]? = some (.int .u8 (b.toNat : Int)) := by rw [enc8, List.getElem?_map, h]; rfl
theorem strCells_enc (s : ByteArray) : Go.Lib.strCells s = enc8 s.data.toList := rfl
/-- a list of bytes as a string -/
def strB (l : Bs) : ByteArray := ⟨l.toArray⟩
theorem strB_size (l : Bs) : (strB l).size = l.length := by simp [strB, ByteArray.size]
theorem strB_data (s : ByteArray) : strB s.data.toList = s := by cases s; simp [strB]
theorem strB_inj {l k : Bs} (h : strB l = strB k) : l = k := by
  unfold strB at h
  injection h with h
  simpa using h
theorem strB_list (l : Bs) : (strB l).toList = l := by
  simp [strB]
theorem str_nums (l : Bs) : strOfNums (l.map fun b => (b.toNat : Int)) = strB l := by
  unfold strOfNums strB
  congr 1
  rw [List.map_map]
  congr 1
  conv => rhs; rw [← List.map_id l]
  apply List.map_congr_left
  intro b _
  simp

abbrev Buf (w : World) (base : Nat) (v : Value) (l : Bs) : Prop := w.ownsRow base 5 1 v l.length (enc8 l)
/-- rows of bytes from base on -/
def U8 (base : Nat) (w : World) : Nat → Prop := fun k => base ≤ k ∧ ∃ cur fz, w.heap[k]? = some (.cells cur 5 fz)
section
variable {w w' w1 w2 : World} {base : Nat} {v : Value} {l : Bs}
theorem Buf.sl {A : Option Addr} {n c : Nat} (h : w.ownsRow base 5 1 (.slice A n c) n (enc8 l)) : Sl w 5 1 A n (enc8 l) := Sl.of_own h
theorem U8.step (h : Fr (U8 base w) w w1) (k : Nat) (hk : U8 base w1 k) : U8 base w k ∨ w.heap.size ≤ k := by
  rcases Nat.lt_or_ge k w.heap.size with hl | hl
  · by_cases hs : U8 base w k
    · exact .inl hs
    · obtain ⟨hb, cur, fz, hc⟩ := hk
      rw [h.block k hl hs] at hc
      exact .inl ⟨hb, cur, fz, hc⟩
  · exact .inr hl
theorem U8.trans (h : Fr (U8 base w) w w1) (h2 : Fr (U8 base w1) w1 w2) : Fr (U8 base w) w w2 := h.step h2 fun k hk => U8.step h k hk
theorem U8.grown (h : Fr (U8 base w) w w1) (ho : Buf w1 base v l) (hg : w1.grownBy w2 v.ownBlock) : Fr (U8 base w) w w2 :=
  h.grown hg fun k hk => by
    obtain ⟨cur, hc⟩ := row_type ho k hk
    exact U8.step h k ⟨(own_size ho k hk).1, cur, _, hc⟩
theorem U8.zero (h : Fr (U8 w.heap.size w) w w1) : Fr No w w1 := h.mono fun k hl hk => by have := hk.1; omega
theorem U8.since (h : Fr No w w1) (h2 : Fr (U8 w.heap.size w1) w1 w2) : Fr No w w2 := h.step h2 fun _ hi => .inr hi.1
theorem Blk.u8 {g : Nat} {t : TypeId} {cs : List Value} (h : Blk w g t cs) (hf : Fr (U8 base w) w w') (ht : t ≠ 5) : Blk w' g t cs := h.fr hf fun ⟨_, cur, fz, hc⟩ => by
  unfold Blk at h
  rw [h] at hc
  injection hc with hc
  injection hc with _ he
  exact ht he
theorem Sl.u8 {e : TypeId} {sz n : Nat} {A : Option Addr} {xs : List Value} (h : Sl w e sz A n xs) (hf : Fr (U8 base w) w w') (ht : e ≠ 5) : Sl w' e sz A n xs := h.fr hf fun b cur fr hb ⟨_, cur', fz, hc⟩ => by
  rw [hb] at hc
  injection hc with hc
  injection hc with _ he
  exact ht he
theorem buf_some {A : Option Addr} {n c : Nat} (h : w.ownsRow base 5 1 (.slice A n c) n (enc8 l)) (hn : 0 < n) : ∃ b, A = some ⟨b, 0, none⟩ := by
  rcases h.2 with ⟨_, h0⟩ | ⟨g, c, cur, hv, _⟩
  · omega
  · injection hv with h1 h2 h3
    exact ⟨g, h1⟩
theorem buf_ne {b n c g : Nat} {t : TypeId} {cs : List Value} (h : w.ownsRow base 5 1 (.slice (some ⟨b, 0, none⟩) n c) n (enc8 l)) (hB : Blk w g t cs) (ht : t ≠ 5) : g ≠ b := by
  rintro rfl
  obtain ⟨cur, hc⟩ := row_type h g rfl
  unfold Blk at hB
  rw [hB] at hc
  injection hc with hc
  injection hc with _ he
  exact ht he
/-- rows of bytes below base -/
theorem Sl.below {e : TypeId} {sz n b o : Nat} {xs : List Value} (h : Sl w e sz (some ⟨b, o, none⟩) n xs) (hf : Fr (U8 base w) w w') (hb : b < base) : Sl w' e sz (some ⟨b, o, none⟩) n xs := by
  refine ⟨h.1, fun hn => ?_⟩
  obtain ⟨b1, o1, cur, fr, e1, hb1, hx⟩ := h.2 hn
  injection e1 with e1
  injection e1 with e1 e2
  subst e1 e2
  exact ⟨b, o, cur, fr, rfl, (hf.block b (lt_of_heap hb1) (fun hk => by have := hk.1; omega)).trans hb1, hx⟩
end

theorem u8_info : (Try.prog.info? 5).map (fun i => (i.zero, i.size, i.bytes)) = some (some (.int .u8 0), 1, 1) := by kernel_rfl
theorem bytes_und : Try.prog.underlying 95 = some (.slice 5) := by kernel_rfl
theorem byte_und : Try.prog.underlying 5 = some (.int .u8) := by kernel_rfl
theorem strT_und : Try.prog.underlying 9 = some .string := by kernel_rfl

/-- append of bytes -/
theorem run_append_buf {w : World} {base : Nat} {v : Value} {l : Bs} (ty : TypeId) (hown : Buf w base v l) {A : Option Addr} {m c : Nat} {e2 : TypeId} {news : Bs} (hr : Sl w e2 1 A m (enc8 news))
    (hlen : l.length + m ≤ 200000000000000) (hbase : base ≤ w.heap.size) :
    ∃ v' w', (Builtin.append_ #[95, 95] ty #[v, .slice A m c]).run Try.prog w = .ok v' w' ∧ Buf w' base v' (l ++ news) ∧ w.grownBy w' v.ownBlock := by
  obtain ⟨i, hi, hz, hs, hb⟩ := info_parts u8_info
  have hm : news.length = m := by have := hr.1; rw [enc8_length] at this; omega
  rcases A with _ | ad
  · have h0 : m = 0 := by
      rcases Nat.eq_zero_or_pos m with h0 | h0
      · exact h0
      · obtain ⟨b, o, cur, fr, h, _⟩ := hr.2 h0
        cases h
    have hn : news = [] := List.eq_nil_of_length_eq_zero (hm.trans h0)
    subst h0 hn
    refine ⟨v, w, ?_, by simpa using hown, World.grownBy.refl w _⟩
    rcases hown.2 with ⟨rfl, _⟩ | ⟨g, cap, cur, rfl, _, _, hnc, _⟩
    · simp [Builtin.append_, run_underlying bytes_und, sizeOf, typeInfo, hi, Builtin.lenOf, Builtin.firstCells]
    · simp [Builtin.append_, run_underlying bytes_und, sizeOf, typeInfo, hi, Builtin.lenOf, Builtin.firstCells, hnc, storeCells]
  · have hcells : ∀ j u, (enc8 news)[j]? = some u → w.cell? (ad.add j) = some u := by
      intro j u hu
      rcases Nat.eq_zero_or_pos m with h0 | h0
      · have hn : news = [] := List.eq_nil_of_length_eq_zero (hm.trans h0)
        subst hn
        simp [enc8] at hu
      · obtain ⟨b, o, hA, _, hc, _⟩ := hr.cells h0
        have hA := Option.some.inj hA
        subst hA
        rw [add_off]
        exact hc j u hu
    obtain ⟨v', w', hrun, h2, h3, _⟩ := run_append_own_wide (P := Try.prog) w base 95 ty 5 i _ 1 1 bytes_und hi hz hs hb rfl (by omega) v l.length (enc8 l) hown ad m c (enc8 news)
      (by rw [enc8_length]; omega) hcells (enc8_one news) (by simp only [maxLen]; omega) (by omega) hbase
    refine ⟨v', w', hrun, ?_, h3⟩
    rw [Buf, enc8_append, List.length_append, hm]
    exact h2
/-- append of a string -/
theorem run_append_str {w : World} {base : Nat} {v : Value} {l : Bs} (ty : TypeId) (hown : Buf w base v l) (s : ByteArray)
    (hlen : l.length + s.size ≤ 200000000000000) (hbase : base ≤ w.heap.size) :
    ∃ v' w', (Builtin.append_ #[95, 9] ty #[v, .string s]).run Try.prog w = .ok v' w' ∧ Buf w' base v' (l ++ s.data.toList) ∧ w.grownBy w' v.ownBlock := by
  obtain ⟨i, hi, hz, hsz, hby⟩ := info_parts u8_info
  have hsl : s.data.toList.length = s.size := Array.length_toList
  have key : ∃ v' w', (Builtin.append_ #[95, 9] ty #[v, .string s]).run Try.prog w = .ok v' w' ∧ w'.ownsRow base 5 1 v' (l.length + s.size) (enc8 l ++ Go.Lib.strCells s) ∧ w.grownBy w' v.ownBlock := by
    by_cases hsm : l.length + s.size ≤ 140737488355328
    · obtain ⟨v', w', hrun, h2, h3, _⟩ := Go.Lib.run_append_own_string (P := Try.prog) w base 95 9 ty 5 i bytes_und strT_und hi hz hsz hby v l.length (enc8 l) hown s (by simp only [maxLen]; omega) hsm hbase
      exact ⟨v', w', hrun, h2, h3⟩
    · have hxl := enc8_length l
      have hlen2 : (enc8 l ++ Go.Lib.strCells s).length = (l.length + s.size) * 1 := by rw [List.length_append, hxl, Go.Lib.strCells_length, Nat.mul_one]
      have grown : ∀ (old : Nat), old < l.length + s.size → ∀ (row : Option Nat),
          (w.drew.alloc (.cells ((enc8 l).toArray ++ (Go.Lib.strCells s).toArray ++ Builtin.zeroCells (Value.int .u8 0).cells (grownCap w (l.length + s.size) old 5 - (l.length + s.size))) 5)).ownsRow base 5 1
            (.slice (some ⟨w.heap.size, 0, none⟩) (l.length + s.size) (grownCap w (l.length + s.size) old 5)) (l.length + s.size) (enc8 l ++ Go.Lib.strCells s) ∧
          w.grownBy (w.drew.alloc (.cells ((enc8 l).toArray ++ (Go.Lib.strCells s).toArray ++ Builtin.zeroCells (Value.int .u8 0).cells (grownCap w (l.length + s.size) old 5 - (l.length + s.size))) 5)) row := by
        intro old ho row
        have hge := grownCap_ge w (l.length + s.size) old 5
        have hcm : grownCap w (l.length + s.size) old 5 ≤ maxLen := grownCap_le_maxLen w (l.length + s.size) old 5 (by simp only [maxLen]; omega)
        refine ⟨⟨hlen2, .inr ⟨w.heap.size, _, _, rfl, hbase, heap_alloc_new w.drew _, hge, hcm, ?_, ?_⟩⟩, ⟨rfl, rfl, rfl, by simp, fun k hk _ => Below.heap_alloc w.drew _ k hk⟩⟩
        · have hz1 : (Value.int IntKind.u8 0).cells.size = 1 := rfl
          simp only [Array.size_append, List.size_toArray, size_zeroCells, hz1, hxl, Go.Lib.strCells_length]
          omega
        · simp only [Array.toList_append, List.append_assoc]
          rw [← List.append_assoc, ← hlen2]
          exact List.take_left
      rcases hown.2 with ⟨rfl, h0⟩ | ⟨g, cap, cur, rfl, hbg, hg, hnc, hcm, hcs, htake⟩
      · have hl0 : l = [] := List.eq_nil_of_length_eq_zero h0
        subst hl0
        simp only [List.length_nil, Nat.zero_add] at hsm hlen
        have hr := run_append_nil_string (P := Try.prog) w 95 9 ty 5 i (.int .u8 0) bytes_und strT_und hi hz s (by omega) (by omega) (by rw [hby]; omega)
        have hgr := grown 0 (by simp only [List.length_nil]; omega) (Value.ownBlock (.slice none 0 0))
        simp only [List.length_nil, Nat.zero_add, enc8, List.map_nil, List.nil_append, Array.empty_append] at hgr ⊢
        have e1 : (s.data.map fun b => Value.int .u8 b.toNat) = (Go.Lib.strCells s).toArray := by
          apply Array.ext'
          simp [Go.Lib.strCells]
        rw [e1] at hr
        exact ⟨_, _, hr, hgr.1, hgr.2⟩
      · by_cases hroom : l.length + s.size ≤ cap
        · have hcs' : cur.size = cap := by simpa using hcs
          have hr := Go.Lib.run_append_room_string (P := Try.prog) w 95 9 ty 5 i bytes_und strT_und hi hsz g l.length cap cur hg s hroom (by omega)
          refine ⟨_, _, hr, ⟨hlen2, .inr ⟨g, cap, _, rfl, hbg, setRow_heap w g cur _ _ _ hg, hroom, hcm, ?_, ?_⟩⟩, ⟨rfl, rfl, rfl, by simp, fun k _ hk => setRow_other w g k _ (fun e => hk (by simp [Value.ownBlock, e]))⟩⟩
          · simp only [List.size_toArray, List.length_append, List.length_take, List.length_drop, Array.length_toList, Go.Lib.strCells_length]
            omega
          · have ht' : cur.toList.take l.length = enc8 l := by simpa using htake
            rw [ht', ← hlen2]
            exact List.take_left
        · have holds : ∀ j u, (enc8 l)[j]? = some u → w.cell? ((⟨g, 0, none⟩ : Addr).add j) = some u := World.ownsRow.cells hown (g := g) rfl
          have hr := Go.Lib.run_append_grow_string (P := Try.prog) w 95 9 ty 5 i (.int .u8 0) bytes_und strT_und hi hz ⟨g, 0, none⟩ l.length cap (enc8 l) (by rw [hsz]; simpa using hxl) holds s (by omega) (by omega) (by rw [hby]; exact growslice_fits_wide (by omega) (by omega))
          have hgr := grown cap (by omega) (Value.ownBlock (.slice (some ⟨g, 0, none⟩) l.length cap))
          exact ⟨_, _, hr, hgr.1, hgr.2⟩
  obtain ⟨v', w', hrun, h2, h3⟩ := key
  refine ⟨v', w', hrun, ?_, h3⟩
  rw [Buf, enc8_append, List.length_append, hsl, ← strCells_enc]
  exact h2

/-! ### the operations, for the walk -/
section
variable {ops : Array Oper} {rest : List Oper} {o : Oper} {a : Act} {w : World} {Q : Exit → Act → World → Prop}
theorem wp_buf_append {K : Act → World → Prop} (s x : Operand)
    (ho : o.op = .call { callee := .builtin .append, args := #[s, x], argTypes := #[95, 95] })
    (base : Nat) (v : Value) (l : Bs) (hs : a.eval s = v) (hown : Buf w base v l) (A : Option Addr) (m c : Nat) (e2 : TypeId) (news : Bs) (hx : a.eval x = .slice A m c) (hr : Sl w e2 1 A m (enc8 news))
    (hlen : l.length + m ≤ 200000000000000) (hbase : base ≤ w.heap.size)
    (h : ∀ v' w', Buf w' base v' (l ++ news) → w.grownBy w' v.ownBlock → K (a.put o.dst v') w') : o.wp Try.prog a w K Q := by
  obtain ⟨v', w', hrun, h2, h3⟩ := run_append_buf o.type hown (c := c) hr hlen hbase
  unfold Oper.wp execOp
  simp only [ho, resolve, invoke, builtin, Sem.run_bind, Sem.run_pure, Result.andThen_ok, List.map_toArray, List.map_cons, List.map_nil, hs, hx, hrun]
  exact h v' w' h2 h3
theorem wpList_buf_append (hgd : o.guard = none) (s x : Operand)
    (ho : o.op = .call { callee := .builtin .append, args := #[s, x], argTypes := #[95, 95] })
    (base : Nat) (v : Value) (l : Bs) (hs : a.eval s = v) (hown : Buf w base v l) (A : Option Addr) (m c : Nat) (e2 : TypeId) (news : Bs) (hx : a.eval x = .slice A m c) (hr : Sl w e2 1 A m (enc8 news))
    (hlen : l.length + m ≤ 200000000000000) (hbase : base ≤ w.heap.size)
    (h : ∀ v' w', Buf w' base v' (l ++ news) → w.grownBy w' v.ownBlock → wpList Try.prog ops Q rest (a.put o.dst v') w') : wpList Try.prog ops Q (o :: rest) a w :=
  wpList_plain hgd fun _ hK => wp_buf_append s x ho base v l hs hown A m c e2 news hx hr hlen hbase fun v' w' h2 h3 => hK _ _ (h v' w' h2 h3)
theorem step_buf_append {E : Prop} {K : Act → World → Prop} (hgd : o.guard = none) (s x : Operand)
    (ho : o.op = .call { callee := .builtin .append, args := #[s, x], argTypes := #[95, 95] })
    (base : Nat) (v : Value) (l : Bs) (hs : a.eval s = v) (hown : Buf w base v l) (A : Option Addr) (m c : Nat) (e2 : TypeId) (news : Bs) (hx : a.eval x = .slice A m c) (hr : Sl w e2 1 A m (enc8 news))
    (hlen : l.length + m ≤ 200000000000000) (hbase : base ≤ w.heap.size)
    (h : ∀ v' w', Buf w' base v' (l ++ news) → w.grownBy w' v.ownBlock → K (a.put o.dst v') w') : if Region.wanted o (yielded ops a.tmps) = true then Oper.wp Try.prog o a w K Q else E := by
  rw [if_pos (by simp [Region.wanted, hgd])]
  exact wp_buf_append s x ho base v l hs hown A m c e2 news hx hr hlen hbase h
theorem wp_str_append {K : Act → World → Prop} (s x : Operand)
    (ho : o.op = .call { callee := .builtin .append, args := #[s, x], argTypes := #[95, 9] })
    (base : Nat) (v : Value) (l : Bs) (hs : a.eval s = v) (hown : Buf w base v l) (t : ByteArray) (hx : a.eval x = .string t)
    (hlen : l.length + t.size ≤ 200000000000000) (hbase : base ≤ w.heap.size)
    (h : ∀ v' w', Buf w' base v' (l ++ t.data.toList) → w.grownBy w' v.ownBlock → K (a.put o.dst v') w') : o.wp Try.prog a w K Q := by
  obtain ⟨v', w', hrun, h2, h3⟩ := run_append_str o.type hown t hlen hbase
  unfold Oper.wp execOp
  simp only [ho, resolve, invoke, builtin, Sem.run_bind, Sem.run_pure, Result.andThen_ok, List.map_toArray, List.map_cons, List.map_nil, hs, hx, hrun]
  exact h v' w' h2 h3
theorem step_str_append {E : Prop} {K : Act → World → Prop} (hgd : o.guard = none) (s x : Operand)
    (ho : o.op = .call { callee := .builtin .append, args := #[s, x], argTypes := #[95, 9] })
    (base : Nat) (v : Value) (l : Bs) (hs : a.eval s = v) (hown : Buf w base v l) (t : ByteArray) (hx : a.eval x = .string t)
    (hlen : l.length + t.size ≤ 200000000000000) (hbase : base ≤ w.heap.size)
    (h : ∀ v' w', Buf w' base v' (l ++ t.data.toList) → w.grownBy w' v.ownBlock → K (a.put o.dst v') w') : if Region.wanted o (yielded ops a.tmps) = true then Oper.wp Try.prog o a w K Q else E := by
  rw [if_pos (by simp [Region.wanted, hgd])]
  exact wp_str_append s x ho base v l hs hown t hx hlen hbase h
theorem wpList_str_append (hgd : o.guard = none) (s x : Operand)
    (ho : o.op = .call { callee := .builtin .append, args := #[s, x], argTypes := #[95, 9] })
    (base : Nat) (v : Value) (l : Bs) (hs : a.eval s = v) (hown : Buf w base v l) (t : ByteArray) (hx : a.eval x = .string t)
    (hlen : l.length + t.size ≤ 200000000000000) (hbase : base ≤ w.heap.size)
    (h : ∀ v' w', Buf w' base v' (l ++ t.data.toList) → w.grownBy w' v.ownBlock → wpList Try.prog ops Q rest (a.put o.dst v') w') : wpList Try.prog ops Q (o :: rest) a w :=
  wpList_plain hgd fun _ hK => wp_str_append s x ho base v l hs hown t hx hlen hbase fun v' w' h2 h3 => hK _ _ (h v' w' h2 h3)
end

/-- a slice of bytes as a string -/
theorem run_str {w : World} {A : Option Addr} {c : Nat} {e : TypeId} {l : Bs} (h : Sl w e 1 A l.length (enc8 l)) : (convert 95 9 (.slice A l.length c)).run Try.prog w = .ok (.string (strB l)) w := by
  rcases A with _ | ad
  · have h0 : l.length = 0 := by
      rcases Nat.eq_zero_or_pos l.length with h0 | h0
      · exact h0
      · obtain ⟨b, o, cur, fr, h, _⟩ := h.2 h0
        cases h
    have hl := List.eq_nil_of_length_eq_zero h0
    subst hl
    exact run_convert_bytes_nil w 95 5 bytes_und byte_und _ c 9 strT_und
  · rcases Nat.eq_zero_or_pos l.length with h0 | h0
    · have hl := List.eq_nil_of_length_eq_zero h0
      subst hl
      rw [run_convert_bytes_string w 95 9 5 _ _ c bytes_und byte_und strT_und, run_bytesToString w ad _ c [] (by kernel_rfl)]
      rfl
    · obtain ⟨b, o, rfl', hb, hc, _⟩ := h.cells h0
      have e := Option.some.inj rfl'
      subst e
      rw [run_convert_bytes_arg w 95 5 bytes_und byte_und b o l.length c (l.map fun b => (b.toNat : Int)) (by simp) (fun i hi => ?_) 9 strT_und, str_nums]
      have h1 : l[i]? = some l[i] := List.getElem?_eq_getElem hi
      rw [hc i _ (enc8_get h1), List.getD_eq_getElem?_getD, List.getElem?_map, h1]
      rfl
/-- a row of one byte -/
theorem sl_byte (w : World) (x : Nat) : Sl (w.alloc (Obj.cells #[.int .u8 ((x : Int) % 256)] 5)) 5 1 (some ⟨w.heap.size, 0, none⟩) 1 (enc8 [UInt8.ofNat x]) := by
  have e : enc8 [UInt8.ofNat x] = [.int .u8 ((x : Int) % 256)] := by
    have : (UInt8.ofNat x).toNat = x % 256 := UInt8.toNat_ofNat'
    simp [enc8, this]
  rw [e]
  exact Sl.of_new w 5 1 1 #[.int .u8 ((x : Int) % 256)] _ rfl rfl
end Go.Proofs.Ytohnchkoldbpcaa

/- wire.put, get; the reference's put, get. -/
namespace Go.Proofs.Ytohnchkoldbpcaa
open Go Go.RowKit Go.Proofs

def PutRel (w0 : World) (base : Nat) (l : Bs) (n k : Nat) (g : Nat) (v0 v1 v8 : Value) (wr : World) : Prop :=
  ∃ (i x : Nat) (v : Value), i + g = k ∧ v8 = .int .i64 i ∧ x = n / 256 ^ i ∧ v1 = .int .u64 x ∧ v = v0 ∧ Buf wr base v (l ++ leB n i) ∧ Fr (U8 base w0) w0 wr
set_option maxRecDepth 100000 in
set_option maxHeartbeats 1000000 in
theorem put_any (base : Nat) (v : Value) (l : Bs) (n k : Nat) (w : World) (h : Buf w base v l) (hb : base ≤ w.heap.size) (hn : n < 18446744073709551616) (hk : k ≤ 8) (hl : l.length ≤ 150000000000000) :
    Calls Try.prog 53 #[v, .int .u64 n, .int .i64 k] w fun e w' => ∃ v', e = .returned v' ∧ Buf w' base v' (l ++ leB n k) ∧ Fr (U8 base w) w w' := by
  have H := Lib.hid h
  clear h
  have hk0 : (0 : Int) ≤ (k : Int) := by omega
  go_enter Try.func53, Try.ntmps53
  go_wp2
  go_loopg [0, 1, 8] k (fun g v0 v1 v8 wr => PutRel w base l n k g v0 v1 v8 wr)
  case atStart => exact ⟨0, n, v, by omega, rfl, by simp, rfl, rfl, by simpa [leB] using H.out, Fr.refl _ _⟩
  case round =>
    clear H
    obtain ⟨i, x, u, hg, rfl, hx, rfl, rfl, ho, hf⟩ := hrel
    have HO := Lib.hid ho
    have HF := Lib.hid hf
    have HX := Lib.hid hx
    have hx0 : (0 : Int) ≤ (x : Int) := by omega
    have hx1 : (x : Int) < 18446744073709551616 := by have := Nat.div_le_self n (256 ^ i); omega
    have hi0 : (0 : Int) ≤ (i : Int) := by omega
    clear ho hf hx
    by_cases hik : i < k
    · have hi1 : (i : Int) < (k : Int) := by omega
      have hll : (l ++ leB n i).length + 1 ≤ 200000000000000 := by rw [List.length_append, leB_length]; omega
      go_wp2_with (at_builtin; go_loud (refine wpList_buf_append (by rfl) (.tmp 10) (.tmp 13) (by rfl) base u (l ++ leB n i) (by rfl) (own_fr0 HO.out ((Fr.refl No wr).alloc (Obj.cells #[.int .u8 ((x : Int) % 256)] 5))) _ 1 1 _ [UInt8.ofNat x] (by rfl) (sl_byte wr x) hll (by have := HF.out.size; simp only [World.size_alloc]; omega) ?_); intro v2 w2 ho2 hg2)
      go_roundg (k - (i + 1))
      case measure => omega
      case rel =>
        refine ⟨i + 1, x / 256, v2, by omega, by go_num, ?_, by go_num, rfl, ?_, U8.grown (HF.out.alloc _) (own_fr0 HO.out ((Fr.refl No wr).alloc _)) hg2⟩
        · rw [HX.out, Nat.div_div_eq_div_mul, Nat.pow_succ]
        · rw [leB_succ, ← HX.out, ← List.append_assoc]
          exact ho2
    · have hi1 : (k : Int) ≤ (i : Int) := by omega
      obtain rfl : i = k := by omega
      go_wp2
      go_ret
      exact ⟨_, rfl, HO.out, HF.out⟩
theorem shr_byte (n i : Nat) : (n : Int) / 2 ^ (8 * i) = ((n / 256 ^ i : Nat) : Int) := by
  have e : ((2 ^ (8 * i) : Nat) : Int) = (2 : Int) ^ (8 * i) := Int.natCast_pow 2 (8 * i)
  rw [← e, Nat.pow_mul]
  rfl
def RPutRel (w0 : World) (base : Nat) (l : Bs) (n k : Nat) (g : Nat) (v0 v7 : Value) (wr : World) : Prop :=
  ∃ (i : Nat) (v : Value), i + g = k ∧ v7 = .int .i64 i ∧ v = v0 ∧ Buf wr base v (l ++ leB n i) ∧ Fr (U8 base w0) w0 wr
end Go.Proofs.Ytohnchkoldbpcaa

/- the sum of bytes: log.Sum; the reference's. -/
namespace Go.Proofs.Ytohnchkoldbpcaa
open Go Go.RowKit Go.Proofs

theorem and1_u32 (y : Nat) (h : y < 4294967296) : bits .and .u32 (y : Int) 1 = ((y % 2 : Nat) : Int) := by
  have := bits_mask .u32 32 (by decide) (fun n h h' => by simp [IntKind.wrap, IntKind.signed, IntKind.bits]; omega) 1 (by omega) (y : Int) (by omega) (by omega)
  have e : (2 : Int) ^ 1 - 1 = 1 := by decide
  rw [e] at this
  rw [this]
  omega
theorem odd_bits (y : Nat) (h : y < 4294967296) (h1 : y % 2 = 1) : bits .xor .u32 ((y : Int) / 2) 3988292384 = ((crc1 y : Nat) : Int) := by
  rw [crc1_odd h1]
  exact u32_xor_nat (y / 2) 3988292384 (by omega) (by omega)
theorem not_bits (y : Nat) (h : y < 4294967296) : bits .xor .u32 (y : Int) 4294967295 = ((4294967295 - y : Nat) : Int) := by
  have h1 := u32_xor_nat y 4294967295 h (by omega)
  have h2 : y ^^^ 4294967295 = 4294967295 - y := by
    apply Nat.eq_of_testBit_eq
    intro i
    have e1 : (4294967295 : Nat) = 2 ^ 32 - 1 := by decide
    have e2 : 4294967295 - y = 2 ^ 32 - (y + 1) := by omega
    rw [e2, Nat.testBit_two_pow_sub_succ (by omega), Nat.testBit_xor, e1, Nat.testBit_two_pow_sub_one]
    by_cases hi : i < 32
    · simp [hi]
    · have : y.testBit i = false := Nat.testBit_lt_two_pow (Nat.lt_of_lt_of_le (show y < 2 ^ 32 by omega) (Nat.pow_le_pow_right (by omega) (by omega)))
      simp [hi, this]
  rw [h2] at h1
  exact h1
def SumRel (w0 : World) (l : Bs) (g : Nat) (v3 v4 : Value) (wr : World) : Prop :=
  ∃ (i s : Nat), i + g = l.length ∧ v4 = .int .i64 i ∧ v3 = .int .u32 s ∧ s = crcL 4294967295 (l.take i) ∧ wr = w0
def SumRel2 (w0 : World) (s : Nat) (g : Nat) (v3 v5 : Value) (wr : World) : Prop :=
  ∃ (j y : Nat), j + g = 8 ∧ v5 = .int .i64 j ∧ v3 = .int .u32 y ∧ y = crcI s j ∧ wr = w0
end Go.Proofs.Ytohnchkoldbpcaa

/- log.Sum. -/
namespace Go.Proofs.Ytohnchkoldbpcaa
open Go Go.RowKit Go.Proofs

def tab (i : Nat) : List Value := (List.range 16).map fun k => .int .u32 (if k < i then ((crc4 k : Nat) : Int) else 0)
theorem tab_get {i k : Nat} (hk : k < 16) : (tab i)[k]? = some (.int .u32 (if k < i then ((crc4 k : Nat) : Int) else 0)) := by
  rw [tab, List.getElem?_map, List.getElem?_range hk]
  rfl
theorem tab_set (i : Nat) (hi : i < 16) : tab (i + 1) = (tab i).set i (.int .u32 ((crc4 i : Nat) : Int)) := by
  apply List.ext_getElem?
  intro k
  by_cases hk : k < 16
  · rw [tab_get hk, List.getElem?_set]
    by_cases e : i = k
    · subst e
      have hl : i < (tab i).length := by simp [tab, hk]
      simp [hl]
    · rw [if_neg e, tab_get hk]
      by_cases h : k < i
      · rw [if_pos (by omega), if_pos h]
      · rw [if_neg (by omega), if_neg h]
  · rw [List.getElem?_eq_none (by simp [tab]; omega), List.getElem?_eq_none (by simp [tab]; omega)]
theorem crc4_iter (s : Nat) : crc4 s = crcI s 4 := by rw [crc4_eq, crcI_succ, crcI_succ, crcI_succ, crcI_succ, crcI_zero]
theorem xor0_u32 (y : Nat) (h : y < 4294967296) : bits .xor .u32 ((y : Int) / 2) 0 = ((y / 2 : Nat) : Int) := by
  have := u32_xor_nat (y / 2) 0 (by omega) (by omega)
  simpa using this
def TabRel (w0 : World) (G : Nat) (g : Nat) (v9 : Value) (wr : World) : Prop :=
  ∃ i : Nat, i + g = 16 ∧ v9 = .int .i64 i ∧ Blk wr G 121 (tab i) ∧ Fr No w0 wr
theorem and15_u32 (y : Nat) (h : y < 4294967296) : bits .and .u32 (y : Int) 15 = ((y % 16 : Nat) : Int) := by
  have := bits_mask .u32 32 (by decide) (fun n h h' => by simp [IntKind.wrap, IntKind.signed, IntKind.bits]; omega) 4 (by omega) (y : Int) (by omega) (by omega)
  have e : (2 : Int) ^ 4 - 1 = 15 := by decide
  rw [e] at this
  rw [this]
  omega
theorem half_bits (y : Nat) (h : y < 4294967296) : bits .xor .u32 ((y : Int) / 16) ((crc4 (y % 16) : Nat) : Int) = ((crc4 y : Nat) : Int) := by
  have h1 := u32_xor_nat (y / 16) (crc4 (y % 16)) (by omega) (crc4_lt (by omega))
  rw [← crc4_half] at h1
  exact h1
theorem not_bits2 (y : Nat) (h : y < 4294967296) : bits .xor .u32 IntKind.u32.max (y : Int) = ((4294967295 - y : Nat) : Int) := by
  have h1 := u32_xor_nat 4294967295 y (by omega) h
  have h2 := u32_xor_nat y 4294967295 h (by omega)
  rw [Nat.xor_comm, ← h2] at h1
  exact h1.trans (not_bits y h)
/-- what half a byte's step reads and makes -/
theorem half_step {w : World} {G : Nat} (hB : Blk w G 121 (tab 16)) (y : Nat) (h : y < 4294967296) :
    ∃ m hf z : Nat, bits .and .u32 (y : Int) 15 = (m : Int) ∧ m < 16 ∧ w.cell? ⟨G, m, none⟩ = some (.int .u32 (hf : Int)) ∧ bits .xor .u32 ((y : Int) / 16) (hf : Int) = (z : Int) ∧ z < 4294967296 ∧ Hid (z = crc4 y) := by
  refine ⟨y % 16, crc4 (y % 16), crc4 y, and15_u32 y h, by omega, ?_, half_bits y h, crc4_lt h, Lib.hid rfl⟩
  rw [hB.cell, tab_get (by omega), if_pos (by omega)]
def SumLRel (w0 : World) (l : Bs) (g : Nat) (v6 v29 : Value) (wr : World) : Prop :=
  ∃ (i s : Nat), i + g = l.length ∧ v29 = .int .i64 i ∧ v6 = .int .u32 s ∧ s = crcL 4294967295 (l.take i) ∧ wr = w0
def HalfRel (w0 : World) (s : Nat) (g : Nat) (v5 v14 : Value) (wr : World) : Prop :=
  ∃ (j y : Nat), j + g = 4 ∧ v14 = .int .i64 j ∧ v5 = .int .u32 y ∧ y = crcI s j ∧ wr = w0
set_option maxRecDepth 100000 in
set_option maxHeartbeats 2000000 in
theorem sum_any (A : Option Addr) (c : Nat) (e : TypeId) (l : Bs) (w : World) (h : Sl w e 1 A l.length (enc8 l)) (hm : l.length ≤ maxLen) :
    Calls Try.prog 54 #[.slice A l.length c] w fun e w' => e = .returned (.int .u32 (crc l)) ∧ Fr No w w' := by
  have H := Lib.hid h
  have hl0 : (0 : Int) ≤ (l.length : Int) := by omega
  have hl2 : (l.length : Int) ≤ 9223372036854775807 := by simp only [maxLen] at hm; omega
  clear h hm
  go_enter Try.func54, Try.ntmps54
  go_wp2
  have B0 := Blk.new w 121 (tab 0)
  have F0 := (Fr.refl No w).alloc (Obj.cells (tab 0).toArray 121)
  have e0 : (tab 0).toArray = #[.int .u32 0, .int .u32 0, .int .u32 0, .int .u32 0, .int .u32 0, .int .u32 0, .int .u32 0, .int .u32 0, .int .u32 0, .int .u32 0, .int .u32 0, .int .u32 0, .int .u32 0, .int .u32 0, .int .u32 0, .int .u32 0] := by kernel_rfl
  rw [e0] at B0 F0
  have HB0 := Lib.hid B0
  have HF0 := Lib.hid F0
  have HG := Lib.hid (Nat.le_refl w.heap.size)
  clear B0 F0 e0
  obtain ⟨G, hG⟩ : ∃ G, G = w.heap.size := ⟨_, rfl⟩
  rw [← hG] at HB0 ⊢
  have HGw := Lib.hid hG
  clear hG
  go_loopg [9] 16 (fun g v9 wr => TabRel w G g v9 wr)
  case atStart => exact ⟨0, by omega, rfl, HB0.out, HF0.out⟩
  case round =>
    clear HB0 HF0
    obtain ⟨i, hg, rfl, hB, hF⟩ := hrel
    have HB := Lib.hid hB
    have HF := Lib.hid hF
    have hi0 : (0 : Int) ≤ (i : Int) := by omega
    clear hB hF
    by_cases hi : i < 16
    · have hi1 : (i : Int) < 16 := by omega
      go_wp2
      go_loopg [5, 14] 4 (fun g v5 v14 wq => HalfRel wr i g v5 v14 wq)
      case atStart => exact ⟨0, i, by omega, rfl, by go_num, (crcI_zero _).symm, rfl⟩
      case round =>
        obtain ⟨j, y, hgj, rfl, rfl, hy, rfl⟩ := hrel
        have HY := Lib.hid hy
        have hy1 : y < 4294967296 := by rw [hy]; exact crcI_lt (by omega) _
        have hy0 : (0 : Int) ≤ (y : Int) := by omega
        have hj0 : (0 : Int) ≤ (j : Int) := by omega
        clear hy
        by_cases hjl : j < 4
        · have hj1 : (j : Int) < 4 := by omega
          have ha := and1_u32 y hy1
          rcases Nat.mod_two_eq_zero_or_one y with hm | hm
          · rw [hm] at ha
            have HC := Lib.hid (crc1_ev hm)
            have hx0 := xor0_u32 y hy1
            clear hm
            go_wp2
            go_roundg (4 - (j + 1))
            case measure => omega
            case rel => exact ⟨j + 1, y / 2, by omega, by go_num, by first | rfl | go_num, by rw [crcI_succ, ← HY.out, HC.out], rfl⟩
          · rw [hm] at ha
            have hxr := odd_bits y hy1 hm
            clear hm
            obtain ⟨z, hz⟩ : ∃ z, z = crc1 y := ⟨_, rfl⟩
            rw [← hz] at hxr
            have HZ := Lib.hid hz
            clear hz
            go_wp2
            go_roundg (4 - (j + 1))
            case measure => omega
            case rel => exact ⟨j + 1, z, by omega, by go_num, rfl, by rw [crcI_succ, ← HY.out, HZ.out], rfl⟩
        · have hj1 : (4 : Int) ≤ (j : Int) := by omega
          obtain rfl : j = 4 := by omega
          have n0 := HB.out.cell i
          have n1 := HB.out.frozen i
          have n2 := HB.out.lt
          rw [tab_get hi] at n0
          go_wp2
          go_roundg (16 - (i + 1))
          case measure => omega
          case rel =>
            refine ⟨i + 1, by omega, by go_num, ?_, ?_⟩
            · have hb := HB.out.set_ i (.int .u32 ((y : Nat) : Int))
              rw [HY.out, ← crc4_iter, ← tab_set i hi] at hb
              rw [HY.out, ← crc4_iter]
              exact hb
            · exact HF.out.setCell (p := ⟨G, i, none⟩) (.inr (Nat.le_of_eq HGw.out.symm)) _
    · have hi1 : (16 : Int) ≤ (i : Int) := by omega
      obtain rfl : i = 16 := by omega
      have lG := HB.out.lt
      go_wp2
      go_loopg [6, 29] l.length (fun g v6 v29 wq => SumLRel wr l g v6 v29 wq)
      case atStart => exact ⟨0, 4294967295, by omega, rfl, rfl, (crcL_nil _).symm, rfl⟩
      case round =>
        obtain ⟨i, s, hgi, rfl, rfl, hs, rfl⟩ := hrel
        have HS := Lib.hid hs
        have hs1 : s < 4294967296 := by rw [hs]; exact crcL_lt _ (by omega)
        have hs0 : (0 : Int) ≤ (s : Int) := by omega
        have hi0 : (0 : Int) ≤ (i : Int) := by omega
        clear hs
        by_cases hlt : i < l.length
        · have hi1 : (i : Int) < (l.length : Int) := by omega
          obtain ⟨b, hb⟩ : ∃ b, l[i]? = some b := ⟨_, List.getElem?_eq_getElem hlt⟩
          obtain ⟨g, o, rfl, hg1, hc, _⟩ := (H.out.fr0 HF.out).cells (by omega)
          have n0 := hc i _ (enc8_get hb)
          clear hc
          have HT := Lib.hid (crcL_take 4294967295 hb)
          rw [← HS.out] at HT
          have hbn : b.toNat < 256 := b.toNat_lt
          obtain ⟨bn, hbn2⟩ : ∃ bn, bn = b.toNat := ⟨_, rfl⟩
          rw [← hbn2] at n0 HT hbn
          clear hbn2 hb HS
          have hb0 : (0 : Int) ≤ (bn : Int) := by omega
          have hx := u32_xor_nat s bn hs1 (by omega)
          have hx1 := xor_lt hs1 (show bn < 4294967296 by omega)
          have HB2 := Lib.hid (crcB_two s bn)
          generalize s ^^^ bn = y0 at hx hx1 HB2
          have hy0 : (0 : Int) ≤ (y0 : Int) := by omega
          obtain ⟨m1, f1, z1, ha1, hm1, hn1, hz1, hl1, HZ1⟩ := half_step HB.out y0 hx1
          have hz10 : (0 : Int) ≤ (z1 : Int) := by omega
          obtain ⟨m2, f2, z2, ha2, hm2, hn2, hz2, hl2', HZ2⟩ := half_step HB.out z1 hl1
          have hm10 : (0 : Int) ≤ (m1 : Int) := by omega
          have hm11 : (m1 : Int) < 16 := by omega
          have hm20 : (0 : Int) ≤ (m2 : Int) := by omega
          have hm21 : (m2 : Int) < 16 := by omega
          go_wp2
          go_roundg (l.length - (i + 1))
          case measure => omega
          case rel => exact ⟨i + 1, z2, by omega, by go_num, rfl, by rw [HT.out, HB2.out, HZ2.out, HZ1.out], rfl⟩
        · have hi1 : (l.length : Int) ≤ (i : Int) := by omega
          obtain rfl : i = l.length := by omega
          have HX := Lib.hid (HS.out.trans (by rw [List.take_length]))
          have hnb := not_bits2 s hs1
          obtain ⟨z, hz⟩ : ∃ z, z = 4294967295 - s := ⟨_, rfl⟩
          rw [← hz] at hnb
          have HZ := Lib.hid hz
          clear hz
          go_wp2
          go_ret
          refine ⟨?_, HF.out⟩
          rw [crc_def, ← HX.out, ← HZ.out, ← hnb]
          rfl
end Go.Proofs.Ytohnchkoldbpcaa

/- wire.Put: a message as bytes. -/
namespace Go.Proofs.Ytohnchkoldbpcaa
open Go Go.RowKit Go.Proofs

def u64N (x : Int) : Nat := (x % 18446744073709551616).toNat
def u8B (x : Int) : UInt8 := UInt8.ofNat (x % 256).toNat
theorem u8B_toNat (x : Int) : ((u8B x).toNat : Int) = x % 256 := by
  have : (u8B x).toNat = (x % 256).toNat % 256 := UInt8.toNat_ofNat'
  omega
theorem u64N_lt (x : Int) : u64N x < 18446744073709551616 := by unfold u64N; omega
theorem u64N_cast (x : Int) : ((u64N x : Nat) : Int) = x % 18446744073709551616 := by unfold u64N; omega
def headM (m : Msg) : Bs := [167, u8B m.frm, u8B m.to_, u8B m.kind]
def numsM (m : Msg) : List Int := [m.n, m.low, m.mins, m.code]
def numB (l : List Int) : Bs := l.flatMap fun x => leB (u64N x) 8
def textM (m : Msg) : Bs := UInt8.ofNat m.text.size :: m.text.data.toList
/-- all but the sum -/
def frontM (m : Msg) : Bs := headM m ++ numB (numsM m) ++ textM m
def bytesM (m : Msg) : Bs := frontM m ++ leB (crc (frontM m)) 4
theorem numB_length (l : List Int) : (numB l).length = 8 * l.length := by
  induction l with
  | nil => rfl
  | cons x l ih => simp only [numB, List.flatMap_cons, List.length_append, leB_length, List.length_cons] at ih ⊢; omega
theorem frontM_length (m : Msg) : (frontM m).length = 37 + m.text.size := by
  simp only [frontM, List.length_append, numB_length]
  have : m.text.data.toList.length = m.text.size := Array.length_toList
  simp only [headM, numsM, textM, List.length_cons, List.length_nil, this]
  omega
theorem bytesM_length (m : Msg) : (bytesM m).length = 41 + m.text.size := by
  rw [bytesM, List.length_append, frontM_length, leB_length]
  omega
theorem putI_any (base : Nat) (v : Value) (l : Bs) (x : Int) (k : Nat) (w : World) (h : Buf w base v l) (hb : base ≤ w.heap.size) (h0 : 0 ≤ x) (hn : x < 18446744073709551616) (hk : k ≤ 8) (hl : l.length ≤ 150000000000000) :
    Calls Try.prog 53 #[v, .int .u64 x, .int .i64 k] w fun e w' => ∃ v', e = .returned v' ∧ Buf w' base v' (l ++ leB x.toNat k) ∧ Fr (U8 base w) w w' := by
  have e : x = ((x.toNat : Nat) : Int) := by omega
  rw [e]
  exact put_any base v l x.toNat k w h hb (by omega) hk hl
def PMRel (w0 : World) (m : Msg) (G : Nat) (g : Nat) (v4 v29 : Value) (wr : World) : Prop :=
  ∃ (i : Nat) (v : Value), i + g = 4 ∧ v29 = .int .i64 i ∧ v = v4 ∧ Buf wr w0.heap.size v (headM m ++ numB ((numsM m).take i)) ∧ Blk wr G 26 m.vals ∧ Fr No w0 wr
theorem u64N_def (x : Int) : u64N x = (x % 18446744073709551616).toNat := rfl
theorem enc8_head (m : Msg) : enc8 (headM m) = [.int .u8 167, .int .u8 (m.frm % 256), .int .u8 (m.to_ % 256), .int .u8 (m.kind % 256)] := by
  simp only [enc8, headM, List.map_cons, List.map_nil, u8B_toNat]
  rfl
theorem head_buf (m : Msg) (w : World) (base : Nat) (hb : base ≤ w.heap.size) :
    Buf (w.alloc (Obj.cells #[.int .u8 167, .int .u8 (m.frm % 256), .int .u8 (m.to_ % 256), .int .u8 (m.kind % 256)] 5)) base (.slice (some ⟨w.heap.size, 0, none⟩) 4 4) (headM m ++ numB ((numsM m).take 0)) := by
  have h := World.ownsRow_lit (base := base) (e := 5) (size := 1) w #[.int .u8 167, .int .u8 (m.frm % 256), .int .u8 (m.to_ % 256), .int .u8 (m.kind % 256)] 4 hb (by decide) rfl
  have e : headM m ++ numB ((numsM m).take 0) = headM m := by simp [numB]
  rw [e, Buf, enc8_head]
  exact h
theorem nums_at (m : Msg) (i : Nat) (x : Int) (hx : (numsM m)[i]? = some x) (w : World) : (Instr.index 106 (.agg #[.int .i64 m.n, .int .i64 m.low, .int .i64 m.mins, .int .i64 m.code]) (.int .i64 (i : Int))).run Try.prog w = .ok (.int .i64 x) w := by
  have i0 : ∀ (a b c d : Value) (w : World), (Instr.index 106 (.agg #[a, b, c, d]) (.int .i64 0)).run Try.prog w = .ok a w := fun _ _ _ _ _ => by kernel_rfl
  have i1 : ∀ (a b c d : Value) (w : World), (Instr.index 106 (.agg #[a, b, c, d]) (.int .i64 1)).run Try.prog w = .ok b w := fun _ _ _ _ _ => by kernel_rfl
  have i2 : ∀ (a b c d : Value) (w : World), (Instr.index 106 (.agg #[a, b, c, d]) (.int .i64 2)).run Try.prog w = .ok c w := fun _ _ _ _ _ => by kernel_rfl
  have i3 : ∀ (a b c d : Value) (w : World), (Instr.index 106 (.agg #[a, b, c, d]) (.int .i64 3)).run Try.prog w = .ok d w := fun _ _ _ _ _ => by kernel_rfl
  match i, hx with
  | 0, hx => simp only [numsM, List.getElem?_cons_zero, Option.some.injEq] at hx; subst hx; exact i0 _ _ _ _ _
  | 1, hx => simp only [numsM, List.getElem?_cons_zero, List.getElem?_cons_succ, Option.some.injEq] at hx; subst hx; exact i1 _ _ _ _ _
  | 2, hx => simp only [numsM, List.getElem?_cons_zero, List.getElem?_cons_succ, Option.some.injEq] at hx; subst hx; exact i2 _ _ _ _ _
  | 3, hx => simp only [numsM, List.getElem?_cons_zero, List.getElem?_cons_succ, Option.some.injEq] at hx; subst hx; exact i3 _ _ _ _ _
  | k + 4, hx => simp [numsM] at hx
theorem headM_length (m : Msg) : (headM m).length = 4 := rfl
theorem numsM_length (m : Msg) : (numsM m).length = 4 := rfl
theorem numB_take {l : List Int} {i : Nat} {x : Int} (hx : l[i]? = some x) : numB (l.take (i + 1)) = numB (l.take i) ++ leB (u64N x) 8 := by
  rw [List.take_add_one, hx, numB, List.flatMap_append]
  simp [numB]
theorem frontM_eq (m : Msg) : frontM m = headM m ++ numB (numsM m) ++ textM m := rfl
theorem bytesM_eq (m : Msg) : bytesM m = frontM m ++ leB (crc (frontM m)) 4 := rfl
theorem textM_eq (m : Msg) : textM m = UInt8.ofNat m.text.size :: m.text.data.toList := rfl
theorem right_len {m : Msg} (h : rightB m = true) : m.text.size ≤ 20 := by
  simp only [rightB, Bool.and_eq_true, decide_eq_true_eq] at h
  exact h.2.2
theorem numB_nil : numB [] = [] := rfl
theorem frontM_nums (m : Msg) : frontM m = headM m ++ leB (u64N m.n) 8 ++ leB (u64N m.low) 8 ++ leB (u64N m.mins) 8 ++ leB (u64N m.code) 8 ++ textM m := by
  simp [frontM, numsM, numB]
theorem headM_def (m : Msg) : headM m = [167, u8B m.frm, u8B m.to_, u8B m.kind] := rfl
attribute [irreducible] u64N u8B headM numB numsM
set_option maxRecDepth 100000 in
set_option maxHeartbeats 2000000 in
theorem putM_bad (m : Msg) (w : World) (hr : rightB m = false) :
    Calls Try.prog 39 #[m.val] w fun e w' => e = .returned (.tuple #[.slice none 0 0, .int .i64 1]) ∧ Fr No w w' := by
  have HR := Lib.hid hr
  clear hr
  go_enter Try.func39, Try.ntmps39
  go_wp2_with (go_at_call 52; refine (msgRight_any m _).mono ?_; rintro e w1 ⟨rfl, hf1⟩; have F1 := Lib.hid hf1; rw [HR.out]; clear hf1)
  go_ret2
  exact ⟨by rfl, ((Fr.refl No w).alloc _).trans F1.out⟩
set_option maxRecDepth 100000 in
set_option maxHeartbeats 2000000 in
theorem putM_ok (m : Msg) (w : World) (hr : rightB m = true) :
    Calls Try.prog 39 #[m.val] w fun e w' => ∃ A c, e = .returned (.tuple #[.slice A (bytesM m).length c, .int .i64 0]) ∧ Buf w' w.heap.size (.slice A (bytesM m).length c) (bytesM m) ∧ Fr No w w' := by
  have HR := Lib.hid hr
  clear hr
  go_enter Try.func39, Try.ntmps39
  go_wp2_with (go_at_call 52; refine (msgRight_any m _).mono ?_; rintro e w1 ⟨rfl, hf1⟩; have F1 := Lib.hid hf1; have B1 := (Blk.new w 26 m.vals).fr hf1 (fun h => h); obtain ⟨r0, r1, r2, r3, r4, r5, r6, r7⟩ := B1.cells8; have HB1 := Lib.hid B1; have l1 := B1.lt; rw [HR.out]; clear hf1 B1)
  have hsz : w.heap.size + 1 ≤ w1.heap.size := by have := F1.out.size; simpa using this
  have HH := Lib.hid (head_buf m w1 w.heap.size (by omega))
  have HB2 := Lib.hid (HB1.out.alloc (Obj.cells #[.int .u8 167, .int .u8 (m.frm % 256), .int .u8 (m.to_ % 256), .int .u8 (m.kind % 256)] 5))
  have HF2 := Lib.hid ((((Fr.refl No w).alloc _).trans F1.out).alloc (Obj.cells #[.int .u8 167, .int .u8 (m.frm % 256), .int .u8 (m.to_ % 256), .int .u8 (m.kind % 256)] 5))
  clear r0 r1 r2 r3 r4 r5 r6 r7 l1 HB1 F1
  obtain ⟨G, hG⟩ : ∃ G, G = w.heap.size := ⟨_, rfl⟩
  rw [← hG] at HB2
  rw [show (Value.pointer (some ⟨w.heap.size, 0, none⟩)) = Value.pointer (some ⟨G, 0, none⟩) by rw [hG]]
  have HGw := Lib.hid hG
  clear hG
  go_loopg [4, 29] 4 (fun g v4 v29 wr => PMRel w m G g v4 v29 wr)
  case atStart => exact ⟨0, _, by omega, rfl, rfl, HH.out, HB2.out, HF2.out⟩
  case round =>
    clear HH HB2 HF2 hsz
    obtain ⟨i, v, hg, rfl, rfl, ho, hb, hf⟩ := hrel
    have HO := Lib.hid ho
    have HB := Lib.hid hb
    have HF := Lib.hid hf
    have hi0 : (0 : Int) ≤ (i : Int) := by omega
    clear ho hb hf
    by_cases hi : i < 4
    · have hi1 : (i : Int) < 4 := by omega
      obtain ⟨x, hx⟩ : ∃ x, (numsM m)[i]? = some x := ⟨_, List.getElem?_eq_getElem (by rw [numsM_length]; exact hi)⟩
      have hix := nums_at m i x hx
      have HX := Lib.hid (numB_take hx)
      have hlen : (headM m ++ numB ((numsM m).take i)).length ≤ 150000000000000 := by
        rw [List.length_append, numB_length, List.length_take]
        have := headM_length m
        omega
      have hx0 : 0 ≤ x % 18446744073709551616 := by omega
      have hx1 : x % 18446744073709551616 < 18446744073709551616 := by omega
      clear hx
      go_wp2_with (go_at_call 53; refine (putI_any w.heap.size v _ (x % 18446744073709551616) 8 _ HO.out HF.out.size hx0 hx1 (by omega) hlen).mono ?_; rintro e w2 ⟨v2, rfl, ho2, hf2⟩)
      go_roundg (4 - (i + 1))
      case measure => omega
      case rel => exact ⟨i + 1, v2, by omega, by go_num, rfl, by rw [HX.out, u64N_def, ← List.append_assoc]; exact ho2, HB.out.u8 hf2 (by decide), U8.since HF.out hf2⟩
    · have hi1 : (4 : Int) ≤ (i : Int) := by omega
      obtain rfl : i = 4 := by omega
      have hall : (numsM m).take 4 = numsM m := List.take_of_length_le (by rw [numsM_length]; omega)
      rw [hall] at HO
      obtain ⟨pre, hpre⟩ : ∃ pre, pre = headM m ++ numB (numsM m) := ⟨_, rfl⟩
      rw [← hpre] at HO
      have hplen : pre.length = 36 := by rw [hpre, List.length_append, numB_length, headM_length, numsM_length]
      have HP := Lib.hid (frontM_eq m)
      rw [← hpre] at HP
      have HFL := Lib.hid (frontM_length m)
      have hml : m.text.size ≤ 20 := right_len HR.out
      clear hpre hall
      obtain ⟨s0, s1, s2, s3, s4, s5, s6, s7⟩ := HB.out.cells8
      have lG := HB.out.lt
      have hm0 : (0 : Int) ≤ (m.text.size : Int) := by omega
      have hm1 : (m.text.size : Int) ≤ 20 := by omega
      obtain ⟨A4, c4, rfl, _⟩ := own_shape HO.out
      obtain ⟨bv, rfl⟩ := buf_some HO.out (by omega)
      have nb := buf_ne HO.out HB.out (by decide)
      rw [hplen] at HO
      go_wp2
      refine OS.wp_region_o (fun k => k = bv) [(0, 0), (1, 0), (7, 0), (2, 1), (8, 1), (3, 1), (4, 0), (5, 2), (6, 2), (9, 3), (10, 0)] (by kernel_rfl) (by kernel_rfl) ?_
      repeat (first
        | (apply OS.wpO_pure rfl rfl; (focus (intro w'; go_simp; (try rfl); done)); try simp only [Act.put, List.setIfInBounds_toArray, List.set_cons_zero, List.set_cons_succ])
        | (apply OS.wpO_read rfl rfl; (focus (intro w' hf' hs'; (try simp only [World.size_drew, World.cell?_drew, World.size_alloc, World.size_setCell, not_false_eq_true, forall_const] at hs'); go_simp; (try rfl); done)); try simp only [Act.put, List.setIfInBounds_toArray, List.set_cons_zero, List.set_cons_succ])
        | (apply OS.wpO_skip (by decide) rfl rfl; try simp only [Act.put, List.setIfInBounds_toArray, List.set_cons_zero, List.set_cons_succ]))
      refine OS.wpO_loudE rfl fun K hK => ?_
      go_simp
      refine hK _ _ ⟨by (repeat (first | exact Fr.refl _ _ | assumption | refine Fr.drew ?_ | refine Fr.drewL ?_ | refine Fr.alloc ?_ _)), ?_⟩
      clear hK K
      repeat (first
        | (apply OS.wpO_pure rfl rfl; (focus (intro w'; go_simp; (try rfl); done)); try simp only [Act.put, List.setIfInBounds_toArray, List.set_cons_zero, List.set_cons_succ])
        | (apply OS.wpO_read rfl rfl; (focus (intro w' hf' hs'; (try simp only [World.size_drew, World.cell?_drew, World.size_alloc, World.size_setCell, not_false_eq_true, forall_const] at hs'); go_simp; (try rfl); done)); try simp only [Act.put, List.setIfInBounds_toArray, List.set_cons_zero, List.set_cons_succ])
        | (apply OS.wpO_skip (by decide) rfl rfl; try simp only [Act.put, List.setIfInBounds_toArray, List.set_cons_zero, List.set_cons_succ]))
      simp only [IntKind.wrap_u8]
      have FA := ((Fr.refl No wr).alloc (Obj.cells #[.int .u8 ((m.text.size : Int) % 256)] 5)).drew
      have hO2 : (wr.alloc (Obj.cells #[.int .u8 ((m.text.size : Int) % 256)] 5)).drew.ownsRow w.heap.size 5 1 (.slice (some ⟨bv, 0, none⟩) 36 c4) pre.length (enc8 pre) := own_fr0 HO.out FA
      refine OS.wpO_loudE rfl fun K hK => ?_
      refine step_buf_append (by rfl) (.tmp 37) (.tmp 42) (by rfl) (w.heap.size) (.slice (some ⟨bv, 0, none⟩) 36 c4) (pre) (by rfl) (hO2) (_) (1) (1) (_) ([UInt8.ofNat m.text.size]) (by rfl) ((sl_byte wr m.text.size).drew) (by omega) (by have := HF.out.size; simp only [World.size_drew, World.size_alloc]; omega) ?_
      intro v2 w2 ho_v2 hg_v2
      refine hK _ _ ⟨(Fr.of_grown hg_v2).mono (fun k _ hk => Option.some.inj hk), ?_⟩
      clear hK K
      try simp only [Act.put, List.setIfInBounds_toArray, List.set_cons_zero, List.set_cons_succ]
      have F2 := U8.grown ((Fr.refl (U8 w.heap.size (wr.alloc (Obj.cells #[.int .u8 ((m.text.size : Int) % 256)] 5)).drew) _)) hO2 hg_v2
      refine OS.wpO_loud rfl fun K hK => ?_
      refine step_str_append (by rfl) (.tmp 43) (.tmp 45) (by rfl) (w.heap.size) (v2) (pre ++ [UInt8.ofNat m.text.size]) (by rfl) (ho_v2) (m.text) (by rfl) (by rw [List.length_append, hplen]; simp only [List.length_cons, List.length_nil]; omega) (by have := HF.out.size; have := F2.size; simp only [World.size_drew, World.size_alloc] at this; omega) ?_
      intro v3 w3 ho_v3 hg_v3
      refine hK _ _ ?_
      clear hK K
      try simp only [Act.put, List.setIfInBounds_toArray, List.set_cons_zero, List.set_cons_succ]
      have F3 := U8.grown F2 ho_v2 hg_v3
      have HF3 := Lib.hid (U8.since (HF.out.trans FA) F3)
      have e3 : pre ++ [UInt8.ofNat m.text.size] ++ m.text.data.toList = frontM m := by rw [HP.out, textM, List.append_assoc]; rfl
      rw [e3] at ho_v3
      obtain ⟨A3, c3, rfl, _⟩ := own_shape ho_v3
      have HO3 := Lib.hid ho_v3
      clear ho_v3 ho_v2 hg_v2 hg_v3 F2 F3 FA hO2 e3 HP
      have hcl := crc_lt (frontM m)
      obtain ⟨cv, hcv⟩ : ∃ cv, cv = crc (frontM m) := ⟨_, rfl⟩
      rw [← hcv] at hcl
      have HCV := Lib.hid hcv
      clear hcv
      have hcv0 : (0 : Int) ≤ (cv : Int) := by omega
      repeat (first
        | (apply OS.wpO_pure rfl rfl; (focus (intro w'; go_simp; (try rfl); done)); try simp only [Act.put, List.setIfInBounds_toArray, List.set_cons_zero, List.set_cons_succ])
        | (apply OS.wpO_read rfl rfl; (focus (intro w' hf' hs'; (try simp only [World.size_drew, World.cell?_drew, World.size_alloc, World.size_setCell, not_false_eq_true, forall_const] at hs'); go_simp; (try rfl); done)); try simp only [Act.put, List.setIfInBounds_toArray, List.set_cons_zero, List.set_cons_succ])
        | (apply OS.wpO_skip (by decide) rfl rfl; try simp only [Act.put, List.setIfInBounds_toArray, List.set_cons_zero, List.set_cons_succ]))
      refine OS.wpO_nil ?_
      go_wp2_with (first
        | (go_at_call 54; refine (sum_any A3 c3 _ (frontM m) _ (Sl.of_own HO3.out) (by rw [HFL.out]; simp only [maxLen]; omega)).mono ?_; rintro e w4 ⟨rfl, hf4⟩; have HF4 := Lib.hid hf4; rw [← HCV.out]; clear hf4)
        | (go_at_call 53; refine (put_any w.heap.size _ (frontM m) cv 4 _ (own_fr0 HO3.out HF4.out) (HF3.out.trans HF4.out).size (by omega) (by omega) (by rw [HFL.out]; omega)).mono ?_; rintro e w5 ⟨v5, rfl, ho5, hf5⟩; rw [HCV.out, ← bytesM_eq] at ho5; obtain ⟨A5, c5, rfl, _⟩ := own_shape ho5; have HO5 := Lib.hid ho5; have HF5 := Lib.hid (U8.since (HF3.out.trans HF4.out) hf5); clear ho5 hf5))
      go_ret2
      exact ⟨A5, c5, by rfl, HO5.out, HF5.out⟩
end Go.Proofs.Ytohnchkoldbpcaa

/- agent: ends, messages heard and said, new hubs and agents. -/
namespace Go.Proofs.Ytohnchkoldbpcaa
open Go Go.RowKit Go.Proofs

theorem isRun_any (n : Int) (w : World) : Calls Try.prog 22 #[.int .i64 n] w fun e w' => e = .returned (.bool (isRunB n)) ∧ w' = w := by
  by_cases h1 : 1 ≤ n
  · by_cases h2 : n ≤ 2147483647
    · have e : isRunB n = true := by simp [isRunB, h1, h2]
      rw [e]
      clear e
      go_enter Try.func22, Try.ntmps22
      go_wp2
      go_ret
      exact ⟨rfl, rfl⟩
    · have e : isRunB n = false := by simp [isRunB, h1, h2]
      rw [e]
      clear e
      go_enter Try.func22, Try.ntmps22
      go_wp2
      go_ret
      exact ⟨rfl, rfl⟩
  · have e : isRunB n = false := by simp [isRunB, h1]
    rw [e]
    clear e
    go_enter Try.func22, Try.ntmps22
    go_wp2
    go_ret
    exact ⟨rfl, rfl⟩
theorem isClock_any (n : Int) (w : World) : Calls Try.prog 23 #[.int .i64 n] w fun e w' => e = .returned (.bool (isClockB n)) ∧ w' = w := by
  by_cases h1 : 0 ≤ n
  · by_cases h2 : n ≤ 5258966399
    · have e : isClockB n = true := by simp [isClockB, h1, h2]
      rw [e]
      clear e
      go_enter Try.func23, Try.ntmps23
      go_wp2
      go_ret
      exact ⟨rfl, rfl⟩
    · have e : isClockB n = false := by simp [isClockB, h1, h2]
      rw [e]
      clear e
      go_enter Try.func23, Try.ntmps23
      go_wp2
      go_ret
      exact ⟨rfl, rfl⟩
  · have e : isClockB n = false := by simp [isClockB, h1]
    rw [e]
    clear e
    go_enter Try.func23, Try.ntmps23
    go_wp2
    go_ret
    exact ⟨rfl, rfl⟩
/-! ### among some numbers -/
def idxI (v : Int) : List Int → Nat → Int
  | [], _ => -1
  | x :: xs, i => if v = x then (i : Int) else idxI v xs (i + 1)
theorem idxI_drop {v x : Int} {ks : List Int} {i : Nat} (h : ks[i]? = some x) : idxI v (ks.drop i) i = if v = x then (i : Int) else idxI v (ks.drop (i + 1)) (i + 1) := by
  have hi := (List.getElem?_eq_some_iff.1 h).1
  rw [List.drop_eq_getElem_cons hi, (List.getElem?_eq_some_iff.1 h).2]
  rfl
theorem idxI_pos (v : Int) : ∀ (ks : List Int) (i : Nat), decide (0 ≤ idxI v ks i) = ks.contains v
  | [], _ => rfl
  | x :: xs, i => by
    unfold idxI
    by_cases h : v = x
    · simp [h]
    · simp only [if_neg h, idxI_pos v xs (i + 1), List.contains_cons]
      have : (v == x) = false := by simpa using h
      rw [this, Bool.false_or]
theorem ints_at {w : World} {e : TypeId} {A : Option Addr} {ks : List Int} (h : Sl w e 1 A ks.length (ks.map (Value.int .i64))) {k : Nat} {x : Int} (hx : ks[k]? = some x) :
    ∃ b o, A = some ⟨b, o, none⟩ ∧ b < w.heap.size ∧ w.cell? ⟨b, o + k, none⟩ = some (.int .i64 x) := by
  have hk := (List.getElem?_eq_some_iff.1 hx).1
  obtain ⟨b, o, rfl, hb, hc, _⟩ := h.cells (by omega)
  exact ⟨b, o, rfl, hb, hc k _ (by rw [List.getElem?_map, hx]; rfl)⟩
def IxRel (v : Int) (ks : List Int) (w0 : World) (g : Nat) (v3 : Value) (wr : World) : Prop :=
  ∃ i : Nat, i + g = ks.length ∧ v3 = .int .i64 i ∧ wr = w0 ∧ idxI v ks 0 = idxI v (ks.drop i) i

set_option maxRecDepth 100000 in
theorem index_int (A : Option Addr) (c : Nat) (e : TypeId) (ks : List Int) (v : Int) (w : World) (h : Sl w e 1 A ks.length (ks.map (Value.int .i64))) (hl : ks.length ≤ 1000) :
    Calls Try.prog 55 #[.slice A ks.length c, .int .i64 v] w fun e w' => e = .returned (.int .i64 (idxI v ks 0)) ∧ w' = w := by
  have H := Lib.hid h
  have hl0 : (0 : Int) ≤ (ks.length : Int) := by omega
  have hl1 : (ks.length : Int) ≤ 1000 := by omega
  clear h hl
  go_enter Try.func55, Try.ntmps55
  go_wp2
  go_loopg [8] ks.length (fun g v3 wr => IxRel v ks w g v3 wr)
  case atStart => exact ⟨0, by omega, rfl, rfl, by rw [List.drop_zero]⟩
  case round =>
    obtain ⟨i, hgi, rfl, rfl, hix⟩ := hrel
    have HIX := Lib.hid hix
    have hi0 : (0 : Int) ≤ (i : Int) := by omega
    clear hix
    by_cases hi : i < ks.length
    · have hi1 : (i : Int) < (ks.length : Int) := by omega
      obtain ⟨x, hx⟩ : ∃ x, ks[i]? = some x := ⟨_, List.getElem?_eq_getElem hi⟩
      obtain ⟨b, o, rfl, hb, k0⟩ := ints_at H.out hx
      have HD := Lib.hid (idxI_drop (v := v) hx)
      clear hx
      by_cases hv : v = x
      · subst hv
        go_wp2
        go_ret
        exact ⟨by rw [HIX.out, HD.out, if_pos (by trivial)]; rfl, rfl⟩
      · have hv1 : (v == x) = false := by simpa using hv
        have HV := Lib.hid hv
        clear hv
        go_wp2
        go_roundg (ks.length - (i + 1))
        case measure => omega
        case rel => exact ⟨i + 1, by omega, by go_num, rfl, by rw [HIX.out, HD.out, if_neg HV.out]⟩
    · obtain rfl : i = ks.length := by omega
      have hn : idxI v ks 0 = -1 := by rw [HIX.out, List.drop_length]; rfl
      have HN := Lib.hid hn
      clear hn
      go_wp2
      go_ret
      exact ⟨by rw [HN.out]; rfl, rfl⟩
theorem contains_int (A : Option Addr) (c : Nat) (e : TypeId) (ks : List Int) (v : Int) (w : World) (h : Sl w e 1 A ks.length (ks.map (Value.int .i64))) (hl : ks.length ≤ 1000) :
    Calls Try.prog 40 #[.slice A ks.length c, .int .i64 v] w fun e w' => e = .returned (.bool (ks.contains v)) ∧ w' = w := by
  have H := Lib.hid (index_int A c e ks v w h hl)
  have HP := Lib.hid (idxI_pos v ks 0)
  clear h hl
  generalize idxI v ks 0 = n at H HP
  go_enter Try.func40, Try.ntmps40
  go_wp2_with (go_at_call 55; refine H.out.mono ?_; rintro e w1 ⟨rfl, hw⟩; obtain rfl := hw.symm; clear hw)
  go_ret
  exact ⟨by rw [← HP.out]; rfl, rfl⟩
/-! ### ends -/
abbrev endV (me other : Int) : Value := .agg #[.int .i64 me, .int .i64 other]
def okB (n : Int) : Bool := decide (0 ≤ n) && decide (n < 8)
theorem ok_any (n : Int) (w : World) : Calls Try.prog 59 #[.int .i64 n] w fun e w' => e = .returned (.bool (okB n)) ∧ w' = w := by
  by_cases h1 : 0 ≤ n
  · by_cases h2 : n < 8
    · have e : okB n = true := by simp [okB, h1, h2]
      rw [e]
      clear e
      go_enter Try.func59, Try.ntmps59
      go_wp2
      go_ret
      exact ⟨rfl, rfl⟩
    · have e : okB n = false := by simp [okB, h1, h2]
      rw [e]
      clear e
      go_enter Try.func59, Try.ntmps59
      go_wp2
      go_ret
      exact ⟨rfl, rfl⟩
  · have e : okB n = false := by simp [okB, h1]
    rw [e]
    clear e
    go_enter Try.func59, Try.ntmps59
    go_wp2
    go_ret
    exact ⟨rfl, rfl⟩
theorem right_01 (w : World) : Calls Try.prog 46 #[endV 0 1] w fun e w' => e = .returned (.bool true) ∧ Fr No w w' := by
  go_enter Try.func46, Try.ntmps46
  go_wp2_with (go_at_call 59; refine (ok_any _ _).mono ?_; rintro e w1 ⟨rfl, hw⟩; obtain rfl := hw.symm; clear hw)
  go_ret
  exact ⟨rfl, (Fr.refl _ _).alloc _⟩
theorem right_10 (w : World) : Calls Try.prog 46 #[endV 1 0] w fun e w' => e = .returned (.bool true) ∧ Fr No w w' := by
  go_enter Try.func46, Try.ntmps46
  go_wp2_with (go_at_call 59; refine (ok_any _ _).mono ?_; rintro e w1 ⟨rfl, hw⟩; obtain rfl := hw.symm; clear hw)
  go_ret
  exact ⟨rfl, (Fr.refl _ _).alloc _⟩
theorem say_res {tmps : Array Value} {w : World} {g : Nat} {x : Msg} (h : Blk w g 26 x.vals) (h8 : tmps.getD 8 undef = .pointer (some ⟨g, 0, none⟩)) :
    (results Try.f27 tmps).run Try.prog w = .ok x.val w := by
  obtain ⟨r0, r1, r2, r3, r4, r5, r6, r7⟩ := h.cells8
  simp only [Array.getD_eq_getD_getElem?] at h8
  simp [results, Try.results27, go_sem, h8, r0, r1, r2, r3, r4, r5, r6, r7]
set_option maxRecDepth 100000 in
theorem say_any (me other kind run code : Int) (w : World) : Calls Try.prog 27 #[endV me other, .int .i64 kind, .int .i64 run, .int .i64 code] w fun e w' => e = .returned (sayM me other kind run code).val ∧ Fr No w w' := by
  have HB := Lib.hid (Blk.new (w.alloc (Obj.cells #[.int .i64 me, .int .i64 other] 59)) 26 (sayM me other kind run code).vals)
  rw [show (w.alloc (Obj.cells #[.int .i64 me, .int .i64 other] 59)).heap.size = w.heap.size + 1 by simp] at HB
  have HF := Lib.hid (((Fr.refl No w).alloc (Obj.cells #[.int .i64 me, .int .i64 other] 59)).alloc (Obj.cells ((sayM me other kind run code).vals).toArray 26))
  go_enter Try.func27, Try.ntmps27
  go_wp2
  exact bodyPost_ret (v := (sayM me other kind run code).val) (say_res (x := sayM me other kind run code) HB.out rfl) rfl ⟨rfl, HF.out⟩

/-! ### heard -/
theorem and_false4 {a b c d : Bool} (h : a = false) : (a && b && c && d) = false := by rw [h]; rfl
set_option maxRecDepth 100000 in
set_option maxHeartbeats 1000000 in
theorem heard_any (me other : Int) (m : Msg) (A : Option Addr) (c : Nat) (e : TypeId) (ks : List Int) (w : World) (h : Sl w e 1 A ks.length (ks.map (Value.int .i64))) (hl : ks.length ≤ 1000) :
    Calls Try.prog 26 #[endV me other, m.val, .slice A ks.length c] w fun e w' => e = .returned (.bool (heardB me other ks m)) ∧ Fr No w w' := by
  have H := Lib.hid h
  have HL := Lib.hid hl
  have HB0 := Lib.hid ((Blk.new w 59 [.int .i64 me, .int .i64 other]).alloc (Obj.cells m.vals.toArray 26))
  have HB1 := Blk.new (w.alloc (Obj.cells #[.int .i64 me, .int .i64 other] 59)) 26 m.vals
  rw [show (w.alloc (Obj.cells #[.int .i64 me, .int .i64 other] 59)).heap.size = w.heap.size + 1 by simp] at HB1
  have HM0 := Lib.hid HB1
  have HF0 := Lib.hid (((Fr.refl No w).alloc (Obj.cells #[.int .i64 me, .int .i64 other] 59)).alloc (Obj.cells m.vals.toArray 26))
  clear h hl HB1
  cases hr : rightB m
  · have hh : heardB me other ks m = false := by unfold heardB; exact and_false4 hr
    rw [hh]
    have HR := Lib.hid hr
    clear hr hh
    go_enter Try.func26, Try.ntmps26
    go_wp2_with (go_at_call 39; refine (putM_bad m _ HR.out).mono ?_; rintro e w1 ⟨rfl, hf1⟩; have HF1 := Lib.hid (HF0.out.trans hf1); clear hf1)
    go_ret
    exact ⟨rfl, HF1.out⟩
  · have hh : heardB me other ks m = ((m.frm == other) && (m.to_ == me) && ks.contains m.kind) := by unfold heardB; rw [hr, Bool.true_and]
    rw [hh]
    have HR := Lib.hid hr
    clear hr hh
    by_cases h1 : m.frm = other
    · by_cases h2 : m.to_ = me
      · have e : ((m.frm == other) && (m.to_ == me) && ks.contains m.kind) = ks.contains m.kind := by simp [h1, h2]
        rw [e]
        obtain ⟨kb, hkb⟩ : ∃ kb, kb = ks.contains m.kind := ⟨_, rfl⟩
        rw [← hkb]
        have HKB := Lib.hid hkb
        clear hkb
        have q1 : (m.frm == other) = true := by simpa using h1
        have q2 : (m.to_ == me) = true := by simpa using h2
        clear e h1 h2
        go_enter Try.func26, Try.ntmps26
        go_wp2_with (first
          | (go_at_call 39; refine (putM_ok m _ HR.out).mono ?_; rintro e w1 ⟨A1, c1, rfl, _, hf1⟩; have HF1 := Lib.hid (HF0.out.trans hf1); have b0 := HB0.out.fr hf1 (fun h => h); have b1 := HM0.out.fr hf1 (fun h => h); have e0 := b0.cell 0; have e1 := b0.cell 1; have e2 := b0.lt; simp only [List.getElem?_cons_zero, List.getElem?_cons_succ] at e0 e1; obtain ⟨r0, r1, r2, r3, r4, r5, r6, r7⟩ := b1.cells8; have r8 := b1.lt; clear hf1 b0 b1)
          | (go_at_call 40; refine (contains_int A c _ ks _ _ (H.out.fr0 HF1.out) HL.out).mono ?_; rintro e w2 ⟨he, hw⟩; rw [← HKB.out] at he; obtain rfl := he; obtain rfl := hw.symm; clear hw))
        go_ret
        exact ⟨rfl, HF1.out⟩
      · have e : ((m.frm == other) && (m.to_ == me) && ks.contains m.kind) = false := by simp [h2]
        rw [e]
        have q1 : (m.frm == other) = true := by simpa using h1
        have q2 : (m.to_ == me) = false := by simpa using h2
        clear e h1 h2
        go_enter Try.func26, Try.ntmps26
        go_wp2_with (go_at_call 39; refine (putM_ok m _ HR.out).mono ?_; rintro e w1 ⟨A1, c1, rfl, _, hf1⟩; have HF1 := Lib.hid (HF0.out.trans hf1); have b0 := HB0.out.fr hf1 (fun h => h); have b1 := HM0.out.fr hf1 (fun h => h); have e0 := b0.cell 0; have e1 := b0.cell 1; have e2 := b0.lt; simp only [List.getElem?_cons_zero, List.getElem?_cons_succ] at e0 e1; obtain ⟨r0, r1, r2, r3, r4, r5, r6, r7⟩ := b1.cells8; have r8 := b1.lt; clear hf1 b0 b1)
        go_ret
        exact ⟨rfl, HF1.out⟩
    · have e : ((m.frm == other) && (m.to_ == me) && ks.contains m.kind) = false := by simp [h1]
      rw [e]
      have q1 : (m.frm == other) = false := by simpa using h1
      clear e h1
      go_enter Try.func26, Try.ntmps26
      go_wp2_with (go_at_call 39; refine (putM_ok m _ HR.out).mono ?_; rintro e w1 ⟨A1, c1, rfl, _, hf1⟩; have HF1 := Lib.hid (HF0.out.trans hf1); have b0 := HB0.out.fr hf1 (fun h => h); have b1 := HM0.out.fr hf1 (fun h => h); have e0 := b0.cell 0; have e1 := b0.cell 1; have e2 := b0.lt; simp only [List.getElem?_cons_zero, List.getElem?_cons_succ] at e0 e1; obtain ⟨r0, r1, r2, r3, r4, r5, r6, r7⟩ := b1.cells8; have r8 := b1.lt; clear hf1 b0 b1)
      go_ret
      exact ⟨rfl, HF1.out⟩
end Go.Proofs.Ytohnchkoldbpcaa
