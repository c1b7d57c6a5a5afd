import Derived.Test.YtegogggemmcgdaaCC4
set_option linter.unusedVariables false
set_option linter.unusedSimpArgs false
/- messages that come in. -/
namespace Go.Proofs.Ytegogggemmcgdaa
open Go Go.RowKit Go.Proofs Go.ChangeShapes Go.WideShapes Go.Deep

theorem refMsg_und : Try.prog.underlying 30 = some (.struct (Try.prog.fieldsOf 30)) := by kernel_rfl
theorem refMsg_fields : (Try.prog.fieldsOf 30).toList.map (fun f => (f.type, f.offset)) = [(3, 0), (3, 1), (3, 2), (2, 3), (2, 4), (2, 5), (2, 6), (9, 7)] := by kernel_rfl
theorem i3_und : Try.prog.underlying 3 = some (.int .i64) := by kernel_rfl
theorem i2_und : Try.prog.underlying 2 = some (.int .i64) := by kernel_rfl
theorem str_und : Try.prog.underlying 9 = some .string := by kernel_rfl
section
variable {H : Type} {enc : TypeId × Value → H} {w : World} {base : Nat} {spare : Nat → Bool} {held : Bool}
set_option maxRecDepth 100000 in
theorem rd_msg {cs : List Value} (h : Rd enc Try.prog w base spare held 30 cs) : ∃ x : Msg, cs = x.vals := by
  have hfs := refMsg_fields
  obtain ⟨hlen, hf⟩ := h.struct refMsg_und
  generalize Try.prog.fieldsOf 30 = fs at hfs hf
  have hc : Try.prog.cellsOf 30 = 8 := by kernel_rfl
  have c3 : Try.prog.cellsOf 3 = 1 := by kernel_rfl
  have c2 : Try.prog.cellsOf 2 = 1 := by kernel_rfl
  have c9 : Try.prog.cellsOf 9 = 1 := by kernel_rfl
  rw [hc] at hlen
  match cs, hlen with
  | [a0, a1, a2, a3, a4, a5, a6, a7], _ =>
    have key : ∀ (i : Nat) (ty o : Nat), (fs.toList.map (fun f => (f.type, f.offset)))[i]? = some (ty, o) → Rd enc Try.prog w base spare held ty (([a0, a1, a2, a3, a4, a5, a6, a7].drop o).take (Try.prog.cellsOf ty)) := by
      intro i ty o hi
      rw [List.getElem?_map] at hi
      cases hfi : fs.toList[i]? with
      | none => rw [hfi] at hi; cases hi
      | some f =>
        rw [hfi] at hi
        simp only [Option.map_some, Option.some.injEq, Prod.mk.injEq] at hi
        obtain ⟨rfl, rfl⟩ := hi
        exact hf i f (by simpa using hfi)
    rw [hfs] at key
    have k0 := key 0 3 0 rfl
    have k1 := key 1 3 1 rfl
    have k2 := key 2 3 2 rfl
    have k3 := key 3 2 3 rfl
    have k4 := key 4 2 4 rfl
    have k5 := key 5 2 5 rfl
    have k6 := key 6 2 6 rfl
    have k7 := key 7 9 7 rfl
    simp only [c2, c3, c9, List.drop_succ_cons, List.drop_zero, List.take_succ_cons, List.take_zero] at k0 k1 k2 k3 k4 k5 k6 k7
    obtain ⟨n0, e0, _⟩ := k0.int i3_und
    obtain ⟨n1, e1, _⟩ := k1.int i3_und
    obtain ⟨n2, e2, _⟩ := k2.int i3_und
    obtain ⟨n3, e3, _⟩ := k3.int i2_und
    obtain ⟨n4, e4, _⟩ := k4.int i2_und
    obtain ⟨n5, e5, _⟩ := k5.int i2_und
    obtain ⟨n6, e6, _⟩ := k6.int i2_und
    obtain ⟨s, e7, _⟩ := k7.string str_und
    simp only [List.cons.injEq, and_true] at e0 e1 e2 e3 e4 e5 e6 e7
    subst e0 e1 e2 e3 e4 e5 e6 e7
    exact ⟨⟨n0, n1, n2, n3, n4, n5, n6, s⟩, rfl⟩
end
end Go.Proofs.Ytegogggemmcgdaa
namespace Go.Proofs.Ytegogggemmcgdaa
open Go Go.RowKit Go.Proofs Go.ChangeShapes Go.WideShapes Go.Deep
theorem flat_one {α : Type} (f : α → Value) (l : List α) : l.flatMap (fun y => [f y]) = l.map f := by
  induction l with
  | nil => rfl
  | cons a l ih => simp only [List.flatMap_cons, List.map_cons, ih, List.cons_append, List.nil_append]
theorem wf_i64 {n : Int} (h : (Lit.int .i64 n).wf = true) : -9223372036854775808 ≤ n ∧ n ≤ 9223372036854775807 := by
  simp only [Lit.wf, IntKind.min, IntKind.max, IntKind.signed, IntKind.bits] at h
  simp at h
  omega
section
variable {H : Type} {enc : TypeId × Value → H} {w : World} {base : Nat} {spare : Nat → Bool} {held : Bool}
theorem rd_msgs {v : Value} {d : DataW H} {p : List MemPlace} (h : DataW.Trod enc Try.prog w base spare held 22 v d p) (hv : ∃ a l c, v = .slice a l c) :
    ∃ (A : Option Addr) (c : Nat) (xs : List Msg) (e : TypeId), v = .slice A xs.length c ∧ xs.length ≤ maxLen ∧ Sl w e 8 A xs.length (xs.flatMap Msg.vals) := by
  obtain ⟨a, l, c, rfl⟩ := hv
  obtain ⟨fuel, hf⟩ := h
  obtain ⟨A, n, c', xs, e', h1, _, h3, h4, rfl, h6, _⟩ := Rd.slice (p := fun _ => True) Msg.vals 8 (by omega) ⟨fuel, _, hf⟩ Try.underlying22 (by kernel_rfl) (fun _ => rfl) (fun cs' hr => by obtain ⟨x, hx⟩ := rd_msg hr; exact ⟨x, hx, trivial⟩)
  simp only [Value.cells, List.cons.injEq, and_true] at h1
  exact ⟨A, c', xs, e', h1, by omega, h6⟩
theorem rd_ints {v : Value} {d : DataW H} {p : List MemPlace} (h : DataW.Trod enc Try.prog w base spare held 23 v d p) (hv : ∃ a l c, v = .slice a l c) :
    ∃ (A : Option Addr) (c : Nat) (xs : List Int) (e : TypeId), v = .slice A xs.length c ∧ xs.length ≤ maxLen ∧ Sl w e 1 A xs.length (xs.map (Value.int .i64)) ∧ ∀ y ∈ xs, -9223372036854775808 ≤ y ∧ y ≤ 9223372036854775807 := by
  obtain ⟨a, l, c, rfl⟩ := hv
  obtain ⟨fuel, hf⟩ := h
  obtain ⟨A, n, c', xs, e', h1, _, h3, h4, rfl, h6, h7⟩ := Rd.slice (p := fun y => -9223372036854775808 ≤ y ∧ y ≤ 9223372036854775807) (fun y : Int => [Value.int .i64 y]) 1 (by omega) ⟨fuel, _, hf⟩ Try.underlying23 (by kernel_rfl) (fun _ => rfl)
    (fun cs' hr => by obtain ⟨x, hx, hw⟩ := hr.int i3_und; exact ⟨x, hx, wf_i64 hw⟩)
  simp only [Value.cells, List.cons.injEq, and_true] at h1
  rw [flat_one] at h6
  exact ⟨A, c', xs, e', h1, by omega, h6, h7⟩
end
end Go.Proofs.Ytegogggemmcgdaa

/- what a sized reading tells of its cells: as XRow, with what every part weighs. -/
namespace Go.Proofs.Ytegogggemmcgdaa
open Go Go.RowKit Go.ChangeShapes Go.WideShapes Go.Deep

section
variable {H : Type} {enc : TypeId × Value → H} {P : Program} {w : World} {base : Nat} {spare : Nat → Bool} {held : Bool}
/-- these cells read as a value of type t, of which no part weighs more than may be -/
def RdW (enc : TypeId × Value → H) (P : Program) (w : World) (base : Nat) (spare : Nat → Bool) (held : Bool) (t : TypeId) (cs : List Value) : Prop :=
  ∃ fuel x, DataW.trod enc P w base spare held fuel t cs = some x ∧ ∀ n ∈ x.1.weights P t, n ≤ reachBytes
theorem RdW.rd {t : TypeId} {cs : List Value} (h : RdW enc P w base spare held t cs) : Rd enc P w base spare held t cs := by
  obtain ⟨f, x, h, _⟩ := h
  exact ⟨f, x, h⟩
theorem RdW.string {t : TypeId} {cs : List Value} (h : RdW enc P w base spare held t cs) (ht : P.underlying t = some .string) : ∃ s : ByteArray, cs = [.string s] ∧ s.size ≤ 140737488355328 := by
  obtain ⟨f, x, h, hw⟩ := h
  obtain ⟨s, h1, rfl, h2⟩ := DataW.trod_string ht h
  refine ⟨s, h1, ?_⟩
  have h3 := hw s.data.toList.length (by simp [DataW.weights])
  have h4 := reachBytes_lt
  have e : s.data.toList.length = s.size := Array.length_toList
  omega
theorem weightsAll_mem {e : TypeId} : ∀ {l : List (DataW H)} {d : DataW H} {n : Nat}, d ∈ l → n ∈ d.weights P e → n ∈ DataW.weightsAll P e l
  | a :: l, d, n, hd, hn => by
    simp only [DataW.weightsAll, List.mem_append]
    rcases List.mem_cons.1 hd with rfl | h
    · exact .inl hn
    · exact .inr (weightsAll_mem h hn)
  | [], _, _, hd, _ => by cases hd
theorem RdW.struct {t : TypeId} {fs : Array Field} {cs : List Value} (h : RdW enc P w base spare held t cs) (ht : P.underlying t = some (.struct fs)) :
    cs.length = P.cellsOf t ∧ ∀ (i : Nat) (f : Field), fs[i]? = some f → RdW enc P w base spare held f.type ((cs.drop f.offset).take (P.cellsOf f.type)) := by
  obtain ⟨fuel, x, h, hw⟩ := h
  obtain ⟨xs, n, _, rfl, h1, h2, h3⟩ := DataW.trod_struct ht h
  refine ⟨h1, fun i f hf => ?_⟩
  have h4 := h3 i f hf
  have hi := (Array.getElem?_eq_some_iff.1 hf).1
  have hx : xs[i]? = some (xs[i]'(by omega)) := List.getElem?_eq_getElem (by omega)
  rw [hx] at h4
  refine ⟨n, _, h4, fun m hm => hw m ?_⟩
  simp only [DataW.weights, ht]
  refine DataW.weights_mem_each (j := i) (t := f.type) (d := (xs[i]'(by omega)).1) ?_ ?_ m hm
  · rw [List.getElem?_map]
    have : fs.toList[i]? = some f := by simpa using hf
    rw [this]
    rfl
  · rw [List.getElem?_map, hx]
    rfl
theorem RdW.fields {t : TypeId} {fs : Array Field} {cs : List Value} (h : RdW enc P w base spare held t cs) (ht : P.underlying t = some (.struct fs)) {L : List (TypeId × Nat)} (hL : fs.toList.map (fun f => (f.type, f.offset)) = L) :
    cs.length = P.cellsOf t ∧ ∀ (i : Nat) (ty o : Nat), L[i]? = some (ty, o) → RdW enc P w base spare held ty ((cs.drop o).take (P.cellsOf ty)) := by
  obtain ⟨h1, h2⟩ := h.struct ht
  refine ⟨h1, fun i ty o hi => ?_⟩
  rw [← hL, List.getElem?_map] at hi
  cases hfi : fs.toList[i]? with
  | none => rw [hfi] at hi; cases hi
  | some f =>
    rw [hfi] at hi
    simp only [Option.map_some, Option.some.injEq, Prod.mk.injEq] at hi
    obtain ⟨rfl, rfl⟩ := hi
    exact h2 i f (by simpa using hfi)
/-- a slice whose elements read as something known -/
theorem RdW.slice {α : Type} (f : α → List Value) {p : α → Prop} {t e : TypeId} {cs : List Value} (sz : Nat) (hsz : 0 < sz) (h : RdW enc P w base spare held t cs) (ht : P.underlying t = some (.slice e)) (hc : P.cellsOf e = sz) (hf : ∀ x, (f x).length = sz)
    (he : ∀ cs', RdW enc P w base spare held e cs' → ∃ x, cs' = f x ∧ p x) :
    ∃ (A : Option Addr) (c : Nat) (xs : List α) (e' : TypeId), cs = [.slice A xs.length c] ∧ xs.length ≤ c ∧ c ≤ maxLen ∧ xs.length * P.bytesOf e ≤ reachBytes ∧ Sl w e' sz A xs.length (xs.flatMap f) ∧ ∀ x ∈ xs, p x := by
  obtain ⟨fuel, x, h, hw⟩ := h
  rcases open_slice ht h with ⟨rfl, _⟩ | ⟨a, len, cap, m, n, D, Pl, rfl, _, hl, hm, hmm, rfl, hi⟩
  · exact ⟨none, 0, [], 0, rfl, Nat.le_refl _, by simp [maxLen], by simp, Sl.nil _ _ _ _, by simp⟩
  · have hlm : len ≤ m := by rw [hmm]; split <;> omega
    have hwl : len * P.bytesOf e ≤ reachBytes := by
      have h1 := hw ((((List.range len).map D).length + ((List.range (m - len)).map fun j => D (len + j)).length) * P.bytesOf e) (by simp [DataW.weights, ht])
      have h2 : len * P.bytesOf e ≤ (((List.range len).map D).length + ((List.range (m - len)).map fun j => D (len + j)).length) * P.bytesOf e := Nat.mul_le_mul_right _ (by simp)
      omega
    have h1 : ∀ i, i < len → ∃ x, p x ∧ ∀ j, j < sz → w.cell? (a.add (i * sz + j)) = (f x)[j]? := fun i hil => by
      obtain ⟨cs', hc', ht'⟩ := hi i (by omega)
      rw [hc] at hc'
      obtain ⟨x, rfl, hp⟩ := he cs' ⟨n, _, ht', fun q hq => hw q (by
        simp only [DataW.weights, ht, List.mem_cons, List.mem_append]
        exact .inr (.inl (weightsAll_mem (List.mem_map.2 ⟨i, List.mem_range.2 hil, rfl⟩) hq)))⟩
      obtain ⟨_, _, hcell⟩ := World.cells?_some hc'
      refine ⟨x, hp, fun j hj => ?_⟩
      rw [← hcell j hj, Go.Deep.add_add]
    obtain ⟨xs, hxl, hxs⟩ := list_of len h1
    subst hxl
    have hp : ∀ x ∈ xs, p x := fun x hx => by
      obtain ⟨i, hi'⟩ := List.getElem?_of_mem hx
      exact (hxs i x hi').1
    rcases Nat.eq_zero_or_pos xs.length with h0 | h0
    · have : xs = [] := List.eq_nil_of_length_eq_zero h0
      subst this
      exact ⟨some a, cap, [], 0, rfl, hl, hm, hwl, Sl.nil _ _ _ _, by simp⟩
    · have hx0 : xs[0]? = some xs[0] := List.getElem?_eq_getElem (by omega)
      have hfl := hf xs[0]
      have hc0 : w.cell? (a.add 0) = (f xs[0])[0]? := by simpa using (hxs 0 _ hx0).2 0 hsz
      have ha0 : a.add 0 = a := by simp [Addr.add]
      rw [ha0, List.getElem?_eq_getElem (by omega)] at hc0
      obtain ⟨b, o, sp⟩ := a
      have hcells : ∃ cur e' fr, w.heap[b]? = some (Obj.cells cur e' fr) ∧ sp = none := by
        unfold World.cell? at hc0
        split at hc0
        · rename_i cur e' fr hh
          refine ⟨cur, e', fr, hh, ?_⟩
          cases sp with
          | none => rfl
          | some q => simp at hc0
        · cases hc0
      obtain ⟨cur, e', fr, hh, rfl⟩ := hcells
      refine ⟨some ⟨b, o, none⟩, cap, xs, e', rfl, hl, hm, hwl, ⟨flat_len f sz hf xs, fun _ => ⟨b, o, cur, fr, rfl, hh, fun j u hu => ?_⟩⟩, hp⟩
      have hjl := (List.getElem?_eq_some_iff.1 hu).1
      rw [flat_len f sz hf] at hjl
      have hq : j / sz < xs.length := Nat.div_lt_of_lt_mul (by rw [Nat.mul_comm]; exact hjl)
      have hxq : xs[j / sz]? = some xs[j / sz] := List.getElem?_eq_getElem hq
      have hj : (j / sz) * sz + j % sz = j := by rw [Nat.mul_comm]; exact Nat.div_add_mod j sz
      have h2 := (hxs _ _ hxq).2 (j % sz) (Nat.mod_lt _ hsz)
      rw [hj] at h2
      rw [← flat_at f sz hf hxq (j % sz) (Nat.mod_lt _ hsz), hj, hu, add_off, cell_of_row w b (o + j) cur e' fr hh] at h2
      exact h2
/-- an argument -/
theorem RdW.arg {ts : List TypeId} {ds : List (DataW H)} {v : Value} {p : List MemPlace} {j : Nat} {t : TypeId} {d : DataW H} (hsz : (DataW.weightsEach P ts ds).all (· ≤ reachBytes) = true) (ht : ts[j]? = some t) (hd : ds[j]? = some d) (h : DataW.Trod enc P w base spare held t v d p) :
    RdW enc P w base spare held t v.cells.toList := by
  obtain ⟨fuel, hf⟩ := h
  refine ⟨fuel, _, hf, fun n hn => ?_⟩
  have := List.all_eq_true.1 hsz _ (DataW.weights_mem_each ht hd n hn)
  simpa using this
end
end Go.Proofs.Ytegogggemmcgdaa

/- events that come in. -/
namespace Go.Proofs.Ytegogggemmcgdaa
open Go Go.RowKit Go.Proofs Go.ChangeShapes Go.WideShapes Go.Deep

theorem ev_und : Try.prog.underlying 49 = some (.struct (Try.prog.fieldsOf 49)) := by kernel_rfl
theorem ev_fields : (Try.prog.fieldsOf 49).toList.map (fun f => (f.type, f.offset)) = [(3, 0), (2, 1), (2, 2), (9, 3), (23, 4)] := by kernel_rfl
section
variable {H : Type} {enc : TypeId × Value → H} {w : World} {base : Nat} {spare : Nat → Bool} {held : Bool}
theorem rd_i64 {t : TypeId} (ht : Try.prog.underlying t = some (.int .i64)) {a : Value} (h : RdW enc Try.prog w base spare held t [a]) : ∃ n, a = .int .i64 n ∧ I64 n := by
  obtain ⟨n, e, hw⟩ := h.rd.int ht
  simp only [List.cons.injEq, and_true] at e
  exact ⟨n, e, wf_i64 hw⟩
theorem rd_txt {a : Value} (h : RdW enc Try.prog w base spare held 9 [a]) : ∃ s : ByteArray, a = .string s ∧ s.size ≤ 140737488355328 := by
  obtain ⟨s, e, hs⟩ := h.string str_und
  simp only [List.cons.injEq, and_true] at e
  exact ⟨s, e, hs⟩
theorem rd_tr {t : TypeId} (ht : Try.prog.underlying t = some .bool) {a : Value} (h : RdW enc Try.prog w base spare held t [a]) : ∃ b, a = .bool b := by
  obtain ⟨b, e⟩ := h.rd.bool ht
  simp only [List.cons.injEq, and_true] at e
  exact ⟨b, e⟩
set_option maxRecDepth 100000 in
theorem rd_event {cs : List Value} (h : RdW enc Try.prog w base spare held 49 cs) :
    ∃ (x : EvS) (A : Option Addr) (c : Nat) (e : TypeId), cs = x.cells A c ∧ EvOk x ∧ Sl w e 1 A x.keep.length (x.keep.flatMap fun x => [Value.int .i64 x]) ∧ x.keep.length * 8 ≤ 140737488355328 ∧ x.name.size ≤ 140737488355328 := by
  obtain ⟨hlen, hf⟩ := h.fields ev_und ev_fields
  have hc : Try.prog.cellsOf 49 = 5 := by kernel_rfl
  have c3 : Try.prog.cellsOf 3 = 1 := by kernel_rfl
  have c2 : Try.prog.cellsOf 2 = 1 := by kernel_rfl
  have c9 : Try.prog.cellsOf 9 = 1 := by kernel_rfl
  have c23 : Try.prog.cellsOf 23 = 1 := by kernel_rfl
  rw [hc] at hlen
  match cs, hlen with
  | [a0, a1, a2, a3, a4], _ =>
    have k0 := hf 0 3 0 rfl
    have k1 := hf 1 2 1 rfl
    have k2 := hf 2 2 2 rfl
    have k3 := hf 3 9 3 rfl
    have k4 := hf 4 23 4 rfl
    simp only [c3, c2, c9, c23, List.drop_succ_cons, List.drop_zero, List.take_succ_cons, List.take_zero] at k0 k1 k2 k3 k4
    obtain ⟨n0, rfl, w0⟩ := rd_i64 i3_und k0
    obtain ⟨n1, rfl, w1⟩ := rd_i64 i2_und k1
    obtain ⟨n2, rfl, w2⟩ := rd_i64 i2_und k2
    obtain ⟨s, rfl, ws⟩ := rd_txt k3
    obtain ⟨A, c, xs, e, h1, h2, h3, h4, h5, h6⟩ := RdW.slice (p := I64) (fun x : Int => [Value.int .i64 x]) 1 (by omega) k4 Try.underlying23 (by kernel_rfl) (fun _ => rfl)
      (fun cs' hr => by obtain ⟨y, hy, hw⟩ := hr.rd.int i3_und; exact ⟨y, hy, wf_i64 hw⟩)
    simp only [List.cons.injEq, and_true] at h1
    subst h1
    have hb : Try.prog.bytesOf 3 = 8 := by kernel_rfl
    rw [hb] at h4
    have hr := reachBytes_lt
    exact ⟨⟨n0, n1, n2, s, xs⟩, A, c, e, rfl, ⟨w0, w1, w2, h6⟩, h5, by show xs.length * 8 ≤ _; omega, ws⟩
end
end Go.Proofs.Ytegogggemmcgdaa

/- states that come in. -/
namespace Go.Proofs.Ytegogggemmcgdaa
open Go Go.RowKit Go.Proofs Go.ChangeShapes Go.WideShapes Go.Deep

theorem rj_und : Try.prog.underlying 118 = some (.struct (Try.prog.fieldsOf 118)) := by kernel_rfl
theorem rj_fields : (Try.prog.fieldsOf 118).toList.map (fun f => (f.type, f.offset)) = [(2, 0), (3, 1), (2, 2), (3, 3), (4, 4), (4, 5), (2, 6), (2, 7), (2, 8), (2, 9)] := by kernel_rfl
theorem rc_und : Try.prog.underlying 131 = some (.struct (Try.prog.fieldsOf 131)) := by kernel_rfl
theorem rc_fields : (Try.prog.fieldsOf 131).toList.map (fun f => (f.type, f.offset)) = [(9, 0), (2, 1)] := by kernel_rfl
theorem rr_und : Try.prog.underlying 121 = some (.struct (Try.prog.fieldsOf 121)) := by kernel_rfl
theorem rr_fields : (Try.prog.fieldsOf 121).toList.map (fun f => (f.type, f.offset)) = [(9, 0), (2, 1), (4, 2)] := by kernel_rfl
theorem rh_und : Try.prog.underlying 124 = some (.struct (Try.prog.fieldsOf 124)) := by kernel_rfl
theorem rh_fields : (Try.prog.fieldsOf 124).toList.map (fun f => (f.type, f.offset)) = [(2, 0), (9, 1), (2, 2), (3, 3)] := by kernel_rfl
theorem rs_und : Try.prog.underlying 62 = some (.struct (Try.prog.fieldsOf 62)) := by kernel_rfl
theorem rs_fields : (Try.prog.fieldsOf 62).toList.map (fun f => (f.type, f.offset)) = [(2, 0), (2, 1), (2, 2), (2, 3), (57, 4), (58, 5), (59, 6), (60, 7)] := by kernel_rfl
section
variable {H : Type} {enc : TypeId × Value → H} {w : World} {base : Nat} {spare : Nat → Bool} {held : Bool}
theorem cl3 : Try.prog.cellsOf 3 = 1 := by kernel_rfl
theorem cl2 : Try.prog.cellsOf 2 = 1 := by kernel_rfl
theorem cl4 : Try.prog.cellsOf 4 = 1 := by kernel_rfl
theorem cls : Try.prog.cellsOf 9 = 1 := by kernel_rfl
theorem b4_und : Try.prog.underlying 4 = some .bool := by kernel_rfl
set_option maxRecDepth 100000 in
theorem rd_jst {cs : List Value} (h : RdW enc Try.prog w base spare held 118 cs) : ∃ x : JSt, cs = x.vals ∧ JOk x := by
  obtain ⟨hlen, hf⟩ := h.fields rj_und rj_fields
  have hc : Try.prog.cellsOf 118 = 10 := by kernel_rfl
  rw [hc] at hlen
  match cs, hlen with
  | [a0, a1, a2, a3, a4, a5, a6, a7, a8, a9], _ =>
    have k0 := hf 0 2 0 rfl
    have k1 := hf 1 3 1 rfl
    have k2 := hf 2 2 2 rfl
    have k3 := hf 3 3 3 rfl
    have k4 := hf 4 4 4 rfl
    have k5 := hf 5 4 5 rfl
    have k6 := hf 6 2 6 rfl
    have k7 := hf 7 2 7 rfl
    have k8 := hf 8 2 8 rfl
    have k9 := hf 9 2 9 rfl
    simp only [cl3, cl2, cl4, List.drop_succ_cons, List.drop_zero, List.take_succ_cons, List.take_zero] at k0 k1 k2 k3 k4 k5 k6 k7 k8 k9
    obtain ⟨n0, rfl, w0⟩ := rd_i64 i2_und k0
    obtain ⟨n1, rfl, w1⟩ := rd_i64 i3_und k1
    obtain ⟨n2, rfl, w2⟩ := rd_i64 i2_und k2
    obtain ⟨n3, rfl, w3⟩ := rd_i64 i3_und k3
    obtain ⟨b4, rfl⟩ := rd_tr b4_und k4
    obtain ⟨b5, rfl⟩ := rd_tr b4_und k5
    obtain ⟨n6, rfl, w6⟩ := rd_i64 i2_und k6
    obtain ⟨n7, rfl, w7⟩ := rd_i64 i2_und k7
    obtain ⟨n8, rfl, w8⟩ := rd_i64 i2_und k8
    obtain ⟨n9, rfl, w9⟩ := rd_i64 i2_und k9
    exact ⟨⟨n0, n1, n2, n3, b4, b5, n6, n7, n8, n9⟩, rfl, ⟨w0, w1, w2, w3, w6, w7, w8, w9⟩⟩
set_option maxRecDepth 100000 in
theorem rd_cond {cs : List Value} (h : RdW enc Try.prog w base spare held 131 cs) : ∃ x : CondS, cs = x.vals ∧ I64 x.day ∧ x.name.size ≤ 140737488355328 := by
  obtain ⟨hlen, hf⟩ := h.fields rc_und rc_fields
  have hc : Try.prog.cellsOf 131 = 2 := by kernel_rfl
  rw [hc] at hlen
  match cs, hlen with
  | [a0, a1], _ =>
    have k0 := hf 0 9 0 rfl
    have k1 := hf 1 2 1 rfl
    simp only [cl3, cl2, cl4, cls, List.drop_succ_cons, List.drop_zero, List.take_succ_cons, List.take_zero] at k0 k1
    obtain ⟨s, rfl, ws⟩ := rd_txt k0
    obtain ⟨n1, rfl, w1⟩ := rd_i64 i2_und k1
    exact ⟨⟨s, n1⟩, rfl, w1, ws⟩
set_option maxRecDepth 100000 in
theorem rd_res {cs : List Value} (h : RdW enc Try.prog w base spare held 121 cs) : ∃ x : ResS, cs = x.vals ∧ I64 x.units ∧ x.name.size ≤ 140737488355328 := by
  obtain ⟨hlen, hf⟩ := h.fields rr_und rr_fields
  have hc : Try.prog.cellsOf 121 = 3 := by kernel_rfl
  rw [hc] at hlen
  match cs, hlen with
  | [a0, a1, a2], _ =>
    have k0 := hf 0 9 0 rfl
    have k1 := hf 1 2 1 rfl
    have k2 := hf 2 4 2 rfl
    simp only [cl3, cl2, cl4, cls, List.drop_succ_cons, List.drop_zero, List.take_succ_cons, List.take_zero] at k0 k1 k2
    obtain ⟨s, rfl, ws⟩ := rd_txt k0
    obtain ⟨n1, rfl, w1⟩ := rd_i64 i2_und k1
    obtain ⟨b2, rfl⟩ := rd_tr b4_und k2
    exact ⟨⟨s, n1, b2⟩, rfl, w1, ws⟩
set_option maxRecDepth 100000 in
theorem rd_held {cs : List Value} (h : RdW enc Try.prog w base spare held 124 cs) : ∃ x : HeldS, cs = x.vals ∧ HOk x ∧ x.name.size ≤ 140737488355328 := by
  obtain ⟨hlen, hf⟩ := h.fields rh_und rh_fields
  have hc : Try.prog.cellsOf 124 = 4 := by kernel_rfl
  rw [hc] at hlen
  match cs, hlen with
  | [a0, a1, a2, a3], _ =>
    have k0 := hf 0 2 0 rfl
    have k1 := hf 1 9 1 rfl
    have k2 := hf 2 2 2 rfl
    have k3 := hf 3 3 3 rfl
    simp only [cl3, cl2, cl4, cls, List.drop_succ_cons, List.drop_zero, List.take_succ_cons, List.take_zero] at k0 k1 k2 k3
    obtain ⟨n0, rfl, w0⟩ := rd_i64 i2_und k0
    obtain ⟨s, rfl, ws⟩ := rd_txt k1
    obtain ⟨n2, rfl, w2⟩ := rd_i64 i2_und k2
    obtain ⟨n3, rfl, w3⟩ := rd_i64 i3_und k3
    exact ⟨⟨n0, s, n2, n3⟩, rfl, ⟨w0, w2, w3⟩, ws⟩
set_option maxRecDepth 100000 in
theorem rd_state {cs : List Value} (h : RdW enc Try.prog w base spare held 62 cs) :
    ∃ (x : StS) (A0 A1 A2 A3 : Option Addr) (c0 c1 c2 c3 : Nat) (e0 e1 e2 e3 : TypeId), cs = x.cells A0 A1 A2 A3 c0 c1 c2 c3 ∧ StI x ∧ StSl w x A0 A1 A2 A3 e0 e1 e2 e3 ∧ StLen x ∧
      (∀ y ∈ x.conds, y.name.size ≤ 140737488355328) ∧ (∀ y ∈ x.res, y.name.size ≤ 140737488355328) ∧ (∀ y ∈ x.held, y.name.size ≤ 140737488355328) := by
  obtain ⟨hlen, hf⟩ := h.fields rs_und rs_fields
  have hc : Try.prog.cellsOf 62 = 8 := by kernel_rfl
  have d0 : Try.prog.cellsOf 57 = 1 := by kernel_rfl
  have d1 : Try.prog.cellsOf 58 = 1 := by kernel_rfl
  have d2 : Try.prog.cellsOf 59 = 1 := by kernel_rfl
  have d3 : Try.prog.cellsOf 60 = 1 := by kernel_rfl
  rw [hc] at hlen
  match cs, hlen with
  | [a0, a1, a2, a3, a4, a5, a6, a7], _ =>
    have k0 := hf 0 2 0 rfl
    have k1 := hf 1 2 1 rfl
    have k2 := hf 2 2 2 rfl
    have k3 := hf 3 2 3 rfl
    have k4 := hf 4 57 4 rfl
    have k5 := hf 5 58 5 rfl
    have k6 := hf 6 59 6 rfl
    have k7 := hf 7 60 7 rfl
    simp only [cl3, cl2, cl4, cls, d0, d1, d2, d3, List.drop_succ_cons, List.drop_zero, List.take_succ_cons, List.take_zero] at k0 k1 k2 k3 k4 k5 k6 k7
    obtain ⟨n0, rfl, w0⟩ := rd_i64 i2_und k0
    obtain ⟨n1, rfl, w1⟩ := rd_i64 i2_und k1
    obtain ⟨n2, rfl, w2⟩ := rd_i64 i2_und k2
    obtain ⟨n3, rfl, w3⟩ := rd_i64 i2_und k3
    obtain ⟨A0, c0, l0, e0, h0, _, _, b0, s0, q0⟩ := RdW.slice (p := JOk) JSt.vals 10 (by omega) k4 Try.underlying57 (by kernel_rfl) (fun _ => rfl) (fun cs' hr => rd_jst hr)
    obtain ⟨A1, c1, l1, e1, h1, _, _, b1, s1, q1⟩ := RdW.slice (p := fun y : CondS => I64 y.day ∧ y.name.size ≤ 140737488355328) CondS.vals 2 (by omega) k5 Try.underlying58 (by kernel_rfl) (fun _ => rfl) (fun cs' hr => rd_cond hr)
    obtain ⟨A2, c2, l2, e2, h2, _, _, b2, s2, q2⟩ := RdW.slice (p := fun y : ResS => I64 y.units ∧ y.name.size ≤ 140737488355328) ResS.vals 3 (by omega) k6 Try.underlying59 (by kernel_rfl) (fun _ => rfl) (fun cs' hr => rd_res hr)
    obtain ⟨A3, c3, l3, e3, h3, _, _, b3, s3, q3⟩ := RdW.slice (p := fun y : HeldS => HOk y ∧ y.name.size ≤ 140737488355328) HeldS.vals 4 (by omega) k7 Try.underlying60 (by kernel_rfl) (fun _ => rfl) (fun cs' hr => rd_held hr)
    simp only [List.cons.injEq, and_true] at h0 h1 h2 h3
    subst h0 h1 h2 h3
    have y0 : Try.prog.bytesOf 118 = 72 := by kernel_rfl
    have y1 : Try.prog.bytesOf 131 = 24 := by kernel_rfl
    have y2 : Try.prog.bytesOf 121 = 32 := by kernel_rfl
    have y3 : Try.prog.bytesOf 124 = 40 := by kernel_rfl
    rw [y0] at b0
    rw [y1] at b1
    rw [y2] at b2
    rw [y3] at b3
    have hr := reachBytes_lt
    exact ⟨⟨n0, n1, n2, n3, l0, l1, l2, l3⟩, A0, A1, A2, A3, c0, c1, c2, c3, e0, e1, e2, e3, rfl, ⟨w0, w1, w2, w3, q0, fun y hy => (q1 y hy).1, fun y hy => (q2 y hy).1, fun y hy => (q3 y hy).1⟩, ⟨s0, s1, s2, s3⟩,
      ⟨by show l0.length * 72 ≤ _; omega, by show l1.length * 24 ≤ _; omega, by show l2.length * 32 ≤ _; omega, by show l3.length * 40 ≤ _; omega⟩, fun y hy => (q1 y hy).2, fun y hy => (q2 y hy).2, fun y hy => (q3 y hy).2⟩
end
end Go.Proofs.Ytegogggemmcgdaa
