/- Maps as lists of pairs: what lookup, update, delete and len do to them, for keys whose equality is known. -/
import Derived.Test.YtegogggemmcgdaaLib
namespace Go.Proofs.Ytegogggemmcgdaa
open Go Go.RowKit

/-! ### Lists of pairs -/
section
variable {κ ν : Type} [DecidableEq κ]
def mfind (k : κ) : List (κ × ν) → Nat → Option (Nat × ν)
  | [], _ => none
  | (k', v) :: r, i => if k = k' then some (i, v) else mfind k r (i + 1)
def mget (k : κ) : List (κ × ν) → Option ν
  | [] => none
  | (k', v) :: r => if k = k' then some v else mget k r
def mput (k : κ) (v : ν) : List (κ × ν) → List (κ × ν)
  | [] => [(k, v)]
  | (k', v') :: r => if k = k' then (k', v) :: r else (k', v') :: mput k v r
def mdel (k : κ) : List (κ × ν) → List (κ × ν)
  | [] => []
  | (k', v') :: r => if k = k' then r else (k', v') :: mdel k r

theorem mfind_get (k : κ) : ∀ (m : List (κ × ν)) (i : Nat), (mfind k m i).map (·.2) = mget k m
  | [], _ => rfl
  | (k', v) :: r, i => by
    simp only [mfind, mget]
    split
    · rfl
    · exact mfind_get k r (i + 1)
theorem mfind_none {k : κ} {v : ν} : ∀ {m : List (κ × ν)} {i : Nat}, mfind k m i = none → mput k v m = m ++ [(k, v)] ∧ mdel k m = m ∧ k ∉ m.map (·.1)
  | [], _, _ => ⟨rfl, rfl, by simp⟩
  | (k', v') :: r, i, h => by
    simp only [mfind] at h
    split at h
    · cases h
    · rename_i hne
      obtain ⟨h1, h2, h3⟩ := mfind_none (v := v) h
      simp only [mput, mdel, if_neg hne, h1, h2, List.cons_append, List.map_cons, List.mem_cons, not_or]
      exact ⟨trivial, trivial, hne, h3⟩
theorem mfind_some {k : κ} {v : ν} : ∀ {m : List (κ × ν)} {i j : Nat} {u : ν}, mfind k m i = some (j, u) →
    i ≤ j ∧ m[j - i]? = some (k, u) ∧ mput k v m = m.set (j - i) (k, v) ∧ mdel k m = m.eraseIdx (j - i)
  | [], _, _, _, h => by cases h
  | (k', v') :: r, i, j, u, h => by
    simp only [mfind] at h
    split at h
    · rename_i he
      injection h with h
      injection h with h1 h2
      subst h1 h2 he
      simp [mput, mdel]
    · rename_i hne
      obtain ⟨h1, h2, h3, h4⟩ := mfind_some (v := v) h
      have e : j - i = (j - (i + 1)) + 1 := by omega
      refine ⟨by omega, ?_, ?_, ?_⟩
      · rw [e, List.getElem?_cons_succ]; exact h2
      · simp only [mput, if_neg hne]; rw [e, List.set_cons_succ, h3]
      · simp only [mdel, if_neg hne]; rw [e, List.eraseIdx_cons_succ, h4]

theorem keys_mput (k : κ) (v : ν) (m : List (κ × ν)) : (mput k v m).map (·.1) = if k ∈ m.map (·.1) then m.map (·.1) else m.map (·.1) ++ [k] := by
  induction m with
  | nil => simp [mput]
  | cons p r ih =>
    obtain ⟨k', v'⟩ := p
    simp only [mput]
    split
    · rename_i he; subst he; simp
    · rename_i hne
      simp only [List.map_cons, ih, List.mem_cons, hne, false_or]
      split <;> simp
theorem nodup_mput (k : κ) (v : ν) {m : List (κ × ν)} (h : (m.map (·.1)).Nodup) : ((mput k v m).map (·.1)).Nodup := by
  rw [keys_mput]
  split
  · exact h
  · rename_i hn
    rw [List.nodup_append]
    refine ⟨h, by simp, fun a ha b hb => ?_⟩
    simp at hb
    subst hb
    rintro rfl
    exact hn ha
theorem mdel_sub (k : κ) : ∀ (m : List (κ × ν)), (mdel k m).Sublist m
  | [] => List.Sublist.slnil
  | (k', v') :: r => by
    simp only [mdel]
    split
    · exact (List.sublist_cons_self _ _)
    · exact (mdel_sub k r).cons_cons _
theorem nodup_mdel (k : κ) {m : List (κ × ν)} (h : (m.map (·.1)).Nodup) : ((mdel k m).map (·.1)).Nodup := h.sublist ((mdel_sub k m).map _)
theorem mget_mput (k k' : κ) (v : ν) (m : List (κ × ν)) : mget k' (mput k v m) = if k' = k then some v else mget k' m := by
  induction m with
  | nil => simp [mput, mget]
  | cons p r ih =>
    obtain ⟨q, u⟩ := p
    simp only [mput]
    by_cases h : k = q
    · subst h
      simp only [if_true, mget]
      by_cases h' : k' = k <;> simp [h']
    · simp only [if_neg h, mget, ih]
      by_cases h1 : k' = q
      · subst h1
        rw [if_pos rfl, if_neg (fun e => h e.symm), if_pos rfl]
      · simp [h1]
theorem mget_none_iff (k : κ) (m : List (κ × ν)) : mget k m = none ↔ k ∉ m.map (·.1) := by
  induction m with
  | nil => simp [mget]
  | cons p r ih =>
    obtain ⟨q, u⟩ := p
    simp only [mget, List.map_cons, List.mem_cons, not_or]
    by_cases h : k = q
    · simp [h]
    · simp [h, ih]
theorem mget_mdel (k k' : κ) {m : List (κ × ν)} (hn : (m.map (·.1)).Nodup) : mget k' (mdel k m) = if k' = k then none else mget k' m := by
  induction m with
  | nil => simp [mdel, mget]
  | cons p r ih =>
    obtain ⟨q, u⟩ := p
    simp only [List.map_cons, List.nodup_cons] at hn
    simp only [mdel]
    by_cases h : k = q
    · subst h
      simp only [if_true, mget]
      by_cases h' : k' = k
      · subst h'
        simp [(mget_none_iff k' r).2 hn.1]
      · simp [h']
    · simp only [if_neg h, mget, ih hn.2]
      by_cases h1 : k' = q
      · subst h1
        rw [if_pos rfl, if_neg (fun e => h e.symm), if_pos rfl]
      · simp [h1]
def menc {ν' : Type} (f : ν → ν') (m : List (κ × ν)) : List (κ × ν') := m.map fun x => (x.1, f x.2)
theorem mget_menc {ν' : Type} (f : ν → ν') (k : κ) (m : List (κ × ν)) : mget k (menc f m) = (mget k m).map f := by
  induction m with
  | nil => rfl
  | cons p r ih =>
    simp only [menc, List.map_cons, mget] at ih ⊢
    split
    · rfl
    · exact ih
theorem mput_menc {ν' : Type} (f : ν → ν') (k : κ) (v : ν) (m : List (κ × ν)) : mput k (f v) (menc f m) = menc f (mput k v m) := by
  induction m with
  | nil => rfl
  | cons p r ih =>
    simp only [menc, List.map_cons, mput] at ih ⊢
    split
    · rfl
    · rw [ih]; rfl
theorem mdel_menc {ν' : Type} (f : ν → ν') (k : κ) (m : List (κ × ν)) : mdel k (menc f m) = menc f (mdel k m) := by
  induction m with
  | nil => rfl
  | cons p r ih =>
    simp only [menc, List.map_cons, mdel] at ih ⊢
    split
    · rfl
    · rw [ih]; rfl
end

/-! ### Keys -/
structure KeyLaw (P : Program) (kt : TypeId) {κ : Type} [DecidableEq κ] (enc : κ → Value) : Prop where
  check : ∀ (em : Bool) (k : κ) (w : World), (Instr.checkKey em 10000 kt (enc k)).run P w = .ok () w
  find : ∀ (k : κ) (m : List (κ × Value)) (l : List MapEntry) (i : Nat) (w : World), l.map (fun e => (e.key, e.val)) = m.map (fun x => (enc x.1, x.2)) →
    (∃ d, P.underlying kt = some d ∧ (Instr.findNow d (enc k) l i = some (mfind k m i) ∨
      (Instr.findNow d (enc k) l i = none ∧ (Instr.findAsking kt (enc k) l i).run P w = .ok (mfind k m i) w)))
  same : ∀ k, Instr.sameBits 10000 (enc k) (enc k) = true

section
variable {κ : Type} [DecidableEq κ] {P : Program} {kt : TypeId} {enc : κ → Value}
/-- keys that are compared at once: integers, strings -/
theorem KeyLaw.of_now {d : TypeDesc} (hd : P.underlying kt = some d) (hplain : ∀ (em : Bool) (k : κ) (w : World), (Instr.checkKey em 10000 kt (enc k)).run P w = .ok () w)
    (h : ∀ k k', Instr.sameNow d (enc k) (enc k') = some (decide (k = k'))) (hs : ∀ k, Instr.sameBits 10000 (enc k) (enc k) = true) : KeyLaw P kt enc := by
  have hnow : ∀ (k : κ) (m : List (κ × Value)) (l : List MapEntry) (i : Nat), l.map (fun e => (e.key, e.val)) = m.map (fun x => (enc x.1, x.2)) →
      Instr.findNow d (enc k) l i = some (mfind k m i) := by
    intro k m
    induction m with
    | nil =>
      intro l i hl
      have : l = [] := by simpa using hl
      subst this
      rfl
    | cons p r ih =>
      intro l i hl
      obtain ⟨q, u⟩ := p
      match l, hl with
      | e :: l', hl =>
        simp only [List.map_cons, List.cons.injEq, Prod.mk.injEq] at hl
        obtain ⟨⟨h1, h2⟩, h3⟩ := hl
        simp only [Instr.findNow, h1, h, mfind]
        by_cases he : k = q
        · simp [he, h2]
        · simp only [he, decide_false, if_false]
          exact ih l' (i + 1) h3
  exact ⟨hplain, fun k m l i w hl => ⟨d, hd, .inl (hnow k m l i hl)⟩, hs⟩
/-- keys that are compared by '==': arrays, structs -/
theorem KeyLaw.of_asking {d : TypeDesc} (hd : P.underlying kt = some d) (hplain : ∀ (em : Bool) (k : κ) (w : World), (Instr.checkKey em 10000 kt (enc k)).run P w = .ok () w)
    (h : ∀ k k', Instr.sameNow d (enc k) (enc k') = none) (he : ∀ k k' w, (Op.equal kt (enc k) (enc k')).run P w = .ok (decide (k = k')) w)
    (hs : ∀ k, Instr.sameBits 10000 (enc k) (enc k) = true) : KeyLaw P kt enc := by
  have hask : ∀ (k : κ) (m : List (κ × Value)) (l : List MapEntry) (i : Nat) (w : World), l.map (fun e => (e.key, e.val)) = m.map (fun x => (enc x.1, x.2)) →
      (Instr.findAsking kt (enc k) l i).run P w = .ok (mfind k m i) w := by
    intro k m
    induction m with
    | nil =>
      intro l i w hl
      have : l = [] := by simpa using hl
      subst this
      simp [Instr.findAsking, mfind]
    | cons p r ih =>
      intro l i w hl
      obtain ⟨q, u⟩ := p
      match l, hl with
      | e :: l', hl =>
        simp only [List.map_cons, List.cons.injEq, Prod.mk.injEq] at hl
        obtain ⟨⟨h1, h2⟩, h3⟩ := hl
        simp only [Instr.findAsking, h1, Sem.run_bind, he, Result.andThen_ok, mfind]
        by_cases hq : k = q
        · simp [hq, h2]
        · simp only [hq, decide_false, if_false, Bool.false_eq_true]
          exact ih l' (i + 1) w h3
  refine ⟨hplain, fun k m l i w hl => ⟨d, hd, ?_⟩, hs⟩
  match l, m, hl with
  | [], [], _ => exact .inl rfl
  | e :: l', (q, u) :: r, hl =>
    refine .inr ⟨?_, hask k _ _ i w hl⟩
    simp only [List.map_cons, List.cons.injEq, Prod.mk.injEq] at hl
    simp only [Instr.findNow, hl.1.1, h]

theorem KeyLaw.run_find (L : KeyLaw P kt enc) {k : κ} {m : List (κ × Value)} {l : List MapEntry} (w : World) (h : l.map (fun e => (e.key, e.val)) = m.map (fun x => (enc x.1, x.2))) :
    (Instr.findKey kt (enc k) l).run P w = .ok (mfind k m 0) w := by
  obtain ⟨d, hd, hf⟩ := L.find k m l 0 w h
  unfold Instr.findKey
  simp only [Sem.run_bind, run_underlying hd, Result.andThen_ok]
  rcases hf with hf | ⟨hf, hr⟩
  · simp [hf]
  · simp [hf, hr]
end

/-! ### A map's block -/
def MapObj {κ : Type} (enc : κ → Value) (m : List (κ × Value)) (o : Obj) : Prop :=
  ∃ (arr : Array MapEntry) (ck : Nat), o = .map arr ck ∧ arr.toList.map (fun e => (e.key, e.val)) = m.map (fun x => (enc x.1, x.2)) ∧
    (arr.toList.map (·.born)).Pairwise (· < ·) ∧ ∀ e ∈ arr.toList, e.born < ck
def MapAt {κ : Type} (w : World) (r : Nat) (enc : κ → Value) (m : List (κ × Value)) : Prop :=
  (m.map (·.1)).Nodup ∧ ∃ o, w.heap[r]? = some o ∧ MapObj enc m o

section
variable {κ : Type} {w w' : World} {r : Nat} {enc : κ → Value} {m : List (κ × Value)}
theorem MapAt.lt (h : MapAt w r enc m) : r < w.heap.size := by obtain ⟨_, o, h1, _⟩ := h; exact lt_of_heap h1
theorem MapAt.drew (h : MapAt w r enc m) : MapAt w.drew r enc m := h
theorem MapAt.drewN (h : MapAt w r enc m) (n : Nat) : MapAt (w.drewN n) r enc m := h
theorem MapAt.kept (h : MapAt w r enc m) (hk : w'.heap[r]? = w.heap[r]?) : MapAt w' r enc m := by
  obtain ⟨h0, o, h1, h2⟩ := h
  exact ⟨h0, o, hk.trans h1, h2⟩
theorem MapAt.alloc (h : MapAt w r enc m) (o : Obj) : MapAt (w.alloc o) r enc m := h.kept (Below.heap_alloc w o r h.lt)
theorem MapAt.fr {S : Nat → Prop} (h : MapAt w r enc m) (hf : Fr S w w') (hS : ¬ S r) : MapAt w' r enc m := h.kept (hf.block r h.lt hS)
theorem MapAt.ne {g : Nat} {t : TypeId} {cs : List Value} (h : MapAt w r enc m) (hb : Blk w g t cs) : g ≠ r := by
  obtain ⟨_, o, h1, arr, ck, rfl, _⟩ := h
  exact hb.ne_map h1
theorem MapAt.far (h : MapAt w r enc m) {p : Addr} (hp : r ≠ p.block) (u : Value) : MapAt (w.setCell p u) r enc m := h.kept (Below.heap_setCell w p u r hp)
theorem MapAt.not_cells (h : MapAt w r enc m) (cur : Array Value) (t : TypeId) (fr : Nat × Nat) : w.heap[r]? ≠ some (.cells cur t fr) := by
  obtain ⟨_, o, h1, arr, ck, rfl, _⟩ := h
  rw [h1]
  simp
theorem MapAt.new (w : World) (enc : κ → Value) : MapAt (w.alloc (.map #[] 0)) w.heap.size enc [] :=
  ⟨by simp, _, heap_alloc_new w _, #[], 0, rfl, rfl, by simp, by simp⟩
end

section
variable {κ : Type} [DecidableEq κ] {P : Program} {kt et t : TypeId} {enc : κ → Value} {w : World} {r : Nat} {m : List (κ × Value)}
theorem run_lookup (L : KeyLaw P kt enc) (ht : P.underlying t = some (.map kt et)) {i : TypeInfo} {z : Value} (hi : P.info? et = some i) (hz : i.zero = some z) (h : MapAt w r enc m) (k : κ) (c : Bool) :
    (Instr.lookup t (.map (some r)) (enc k) c).run P w = .ok (if c then .tuple #[(mget k m).getD z, .bool (mget k m).isSome] else (mget k m).getD z) w := by
  obtain ⟨_, o, h1, arr, ck, rfl, h2, _⟩ := h
  have hf := L.run_find (k := k) w h2
  have hg := mfind_get k m 0
  unfold Instr.lookup
  simp only [Sem.run_bind, run_underlying ht, Result.andThen_ok, Sem.run_pure, getObj, Sem.run, h1, L.check, hf]
  cases hm : mfind k m 0 with
  | none =>
    rw [hm] at hg
    have : mget k m = none := by simpa using hg.symm
    cases c <;> simp [this, zeroValue, typeInfo, hi, hz]
  | some p =>
    rw [hm] at hg
    have : mget k m = some p.2 := by simpa using hg.symm
    cases c <;> simp [this]
theorem run_lookup_nil (L : KeyLaw P kt enc) (ht : P.underlying t = some (.map kt et)) {i : TypeInfo} {z : Value} (hi : P.info? et = some i) (hz : i.zero = some z) (k : κ) (c : Bool) (w : World) :
    (Instr.lookup t (.map none) (enc k) c).run P w = .ok (if c then .tuple #[z, .bool false] else z) w := by
  obtain ⟨d, hd, hf⟩ := L.find k [] [] 0 w rfl
  have hf' := L.run_find (k := k) (m := []) (l := []) w rfl
  unfold Instr.lookup
  simp only [Sem.run_bind, run_underlying ht, Result.andThen_ok, Sem.run_pure, L.check, hf', mfind]
  cases c <;> simp [zeroValue, typeInfo, hi, hz, hf', mfind]

theorem run_update (L : KeyLaw P kt enc) (ht : P.underlying t = some (.map kt et)) (h : MapAt w r enc m) (k : κ) (v : Value) :
    ∃ o, (Instr.mapUpdate t (.map (some r)) (enc k) v).run P w = .ok () (setObjAt w r o) ∧ MapAt (setObjAt w r o) r enc (mput k v m) ∧ MapObj enc (mput k v m) o := by
  have hlt := h.lt
  obtain ⟨hn, o, h1, arr, ck, rfl, h2, hp, hb⟩ := h
  have hf := L.run_find (k := k) w h2
  have key : ∀ o', MapObj enc (mput k v m) o' → MapAt (setObjAt w r o') r enc (mput k v m) := fun o' ho => ⟨nodup_mput k v hn, o', setObjAt_same w r o' hlt, ho⟩
  cases hm : mfind k m 0 with
  | none =>
    obtain ⟨e1, e2, e3⟩ := mfind_none (v := v) hm
    have ho : MapObj enc (mput k v m) (.map (arr.push { key := enc k, val := v, born := ck }) (ck + 1)) := by
      refine ⟨_, _, rfl, ?_, ?_, ?_⟩
      · simp [e1, h2]
      · simp only [Array.toList_push, List.map_append, List.map_cons, List.map_nil, List.pairwise_append, hp, true_and, List.pairwise_cons, List.not_mem_nil, false_implies, implies_true, List.Pairwise.nil, List.mem_singleton, and_self]
        rintro a ha b rfl
        obtain ⟨e, he, rfl⟩ := List.mem_map.1 ha
        exact hb e he
      · intro e he
        simp only [Array.toList_push, List.mem_append, List.mem_singleton] at he
        rcases he with he | rfl
        · exact Nat.lt_succ_of_lt (hb e he)
        · exact Nat.lt_succ_self _
    refine ⟨_, ?_, key _ ho, ho⟩
    unfold Instr.mapUpdate
    simp only [Sem.run_bind, run_underlying ht, Result.andThen_ok, getObj, Sem.run, h1, L.check, hf, hm, setObj]
    rfl
  | some p =>
    obtain ⟨j, u⟩ := p
    obtain ⟨_, e1, e2, _⟩ := mfind_some (v := v) hm
    simp only [Nat.sub_zero] at e1 e2
    have hj : (arr.toList.map fun e => (e.key, e.val))[j]? = some (enc k, u) := by rw [h2, List.getElem?_map, e1]; rfl
    rw [List.getElem?_map] at hj
    obtain ⟨e0, he0, hek⟩ : ∃ e, arr.toList[j]? = some e ∧ (e.key, e.val) = (enc k, u) := by
      cases hh : arr.toList[j]? with
      | none => rw [hh] at hj; cases hj
      | some e => rw [hh] at hj; exact ⟨e, rfl, by simpa using hj⟩
    injection hek with hek1 hek2
    have hjl : j < arr.size := by have := (List.getElem?_eq_some_iff.1 he0).1; simpa using this
    have ha : arr[j]? = some e0 := by simpa using he0
    have hae : arr[j] = e0 := (Array.getElem?_eq_some_iff.1 ha).2
    have hmod : (arr.modify j fun e => { e with key := enc k, val := v }).toList = arr.toList.set j { e0 with key := enc k, val := v } := by
      apply List.ext_getElem?
      intro q
      have hq0 : arr.toList[j]? = some e0 := he0
      simp only [Array.getElem?_toList, Array.getElem?_modify, List.getElem?_set, Array.length_toList]
      by_cases hq : j = q
      · subst hq
        simp [ha, hjl, hae]
      · simp [hq]
    have ho : MapObj enc (mput k v m) (.map (arr.modify j fun e => { e with key := enc k, val := v }) ck) := by
      refine ⟨_, _, rfl, ?_, ?_, ?_⟩
      · rw [hmod, List.map_set, h2, e2, List.map_set]
      · rw [hmod, List.map_set]
        have : (arr.toList.map (·.born)).set j e0.born = arr.toList.map (·.born) := by
          apply List.ext_getElem?
          intro q
          rw [List.getElem?_set]
          by_cases hq : j = q
          · subst hq; simp [ha, hjl, hae]
          · simp [hq]
        simpa [this] using hp
      · intro e he
        rw [hmod] at he
        rcases List.mem_or_eq_of_mem_set he with he | rfl
        · exact hb e he
        · exact hb e0 (List.mem_of_getElem? he0)
    refine ⟨_, ?_, key _ ho, ho⟩
    unfold Instr.mapUpdate
    simp only [Sem.run_bind, run_underlying ht, Result.andThen_ok, getObj, Sem.run, h1, L.check, hf, hm, setObj, ha, Option.map_some, Option.getD_some, hek1, Instr.keyThatStays, L.same, if_true, Sem.run_pure]
    rfl

theorem run_delete (L : KeyLaw P kt enc) (ht : P.underlying t = some (.map kt et)) (h : MapAt w r enc m) (k : κ) (ty : TypeId) (t2 : TypeId) :
    ∃ o, (Builtin.delete_ #[t, t2] ty #[.map (some r), enc k]).run P w = .ok (.tuple #[]) (setObjAt w r o) ∧ MapAt (setObjAt w r o) r enc (mdel k m) ∧ MapObj enc (mdel k m) o := by
  have hlt := h.lt
  obtain ⟨hn, o, h1, arr, ck, rfl, h2, hp, hb⟩ := h
  have hf := L.run_find (k := k) w h2
  have key : ∀ o', MapObj enc (mdel k m) o' → MapAt (setObjAt w r o') r enc (mdel k m) := fun o' ho => ⟨nodup_mdel k hn, o', setObjAt_same w r o' hlt, ho⟩
  cases hm : mfind k m 0 with
  | none =>
    obtain ⟨_, e2, _⟩ := mfind_none (v := .nilFunc) hm
    have ho : MapObj enc (mdel k m) (.map arr ck) := ⟨arr, ck, rfl, by rw [e2]; exact h2, hp, hb⟩
    refine ⟨_, ?_, key _ ho, ho⟩
    unfold Builtin.delete_
    simp [run_underlying ht, getObj, Sem.run, h1, L.check, hf, hm, setObj, setObjAt]
  | some p =>
    obtain ⟨j, u⟩ := p
    obtain ⟨_, e1, _, e2⟩ := mfind_some (v := .nilFunc) hm
    simp only [Nat.sub_zero] at e1 e2
    have hjl : j < arr.size := by
      have := congrArg List.length h2
      have h3 := (List.getElem?_eq_some_iff.1 e1).1
      simp at this
      omega
    have her : (arr.eraseIdxIfInBounds j).toList = arr.toList.eraseIdx j := by simp [Array.eraseIdxIfInBounds, hjl]
    have ho : MapObj enc (mdel k m) (.map (arr.eraseIdxIfInBounds j) ck) := by
      refine ⟨_, _, rfl, ?_, ?_, ?_⟩
      · rw [her, e2, Go.ChangeMaps.map_eraseIdx, h2, Go.ChangeMaps.map_eraseIdx]
      · rw [her, Go.ChangeMaps.map_eraseIdx]; exact hp.sublist (List.eraseIdx_sublist _ _)
      · intro e he
        rw [her] at he
        exact hb e ((List.eraseIdx_sublist _ _).subset he)
    refine ⟨_, ?_, key _ ho, ho⟩
    unfold Builtin.delete_
    simp [run_underlying ht, getObj, Sem.run, h1, L.check, hf, hm, setObj, setObjAt]

omit [DecidableEq κ] in
theorem run_len_map (ht : P.underlying t = some (.map kt et)) (h : MapAt w r enc m) (ty : TypeId) :
    (Builtin.len_ #[t] ty #[.map (some r)]).run P w = .ok (.int .i64 m.length) w := by
  obtain ⟨_, o, h1, arr, ck, rfl, h2, _⟩ := h
  have := congrArg List.length h2
  simp at this
  unfold Builtin.len_
  simp [run_underlying ht, getObj, Sem.run, h1, goInt, this]
end
end Go.Proofs.Ytegogggemmcgdaa
