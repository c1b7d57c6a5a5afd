/- messages that come in. -/
import Derived.Test.YtegogggemmcgdaaRow
import Derived.Test.YtegogggemmcgdaaWireA
namespace Go.Proofs.Ytegogggemmcgdaa
open Go Go.RowKit Go.Proofs Go.ChangeShapes Go.WideShapes Go.Deep

theorem refMsg_und : Try.prog.underlying 30 = some (.struct (Try.prog.fieldsOf 30)) := by kernel_rfl
theorem refMsg_fields : (Try.prog.fieldsOf 30).toList.map (fun f => (f.type, f.offset)) = [(3, 0), (3, 1), (3, 2), (2, 3), (2, 4), (2, 5), (2, 6), (9, 7)] := by kernel_rfl
theorem i3_und : Try.prog.underlying 3 = some (.int .i64) := by kernel_rfl
theorem i2_und : Try.prog.underlying 2 = some (.int .i64) := by kernel_rfl
theorem str_und : Try.prog.underlying 9 = some .string := by kernel_rfl
section
variable {H : Type} {enc : TypeId × Value → H} {w : World} {base : Nat} {spare : Nat → Bool} {held : Bool}
set_option maxRecDepth 100000 in
theorem rd_msg {cs : List Value} (h : Rd enc Try.prog w base spare held 30 cs) : ∃ x : Msg, cs = x.vals := by
  have hfs := refMsg_fields
  obtain ⟨hlen, hf⟩ := h.struct refMsg_und
  generalize Try.prog.fieldsOf 30 = fs at hfs hf
  have hc : Try.prog.cellsOf 30 = 8 := by kernel_rfl
  have c3 : Try.prog.cellsOf 3 = 1 := by kernel_rfl
  have c2 : Try.prog.cellsOf 2 = 1 := by kernel_rfl
  have c9 : Try.prog.cellsOf 9 = 1 := by kernel_rfl
  rw [hc] at hlen
  match cs, hlen with
  | [a0, a1, a2, a3, a4, a5, a6, a7], _ =>
    have key : ∀ (i : Nat) (ty o : Nat), (fs.toList.map (fun f => (f.type, f.offset)))[i]? = some (ty, o) → Rd enc Try.prog w base spare held ty (([a0, a1, a2, a3, a4, a5, a6, a7].drop o).take (Try.prog.cellsOf ty)) := by
      intro i ty o hi
      rw [List.getElem?_map] at hi
      cases hfi : fs.toList[i]? with
      | none => rw [hfi] at hi; cases hi
      | some f =>
        rw [hfi] at hi
        simp only [Option.map_some, Option.some.injEq, Prod.mk.injEq] at hi
        obtain ⟨rfl, rfl⟩ := hi
        exact hf i f (by simpa using hfi)
    rw [hfs] at key
    have k0 := key 0 3 0 rfl
    have k1 := key 1 3 1 rfl
    have k2 := key 2 3 2 rfl
    have k3 := key 3 2 3 rfl
    have k4 := key 4 2 4 rfl
    have k5 := key 5 2 5 rfl
    have k6 := key 6 2 6 rfl
    have k7 := key 7 9 7 rfl
    simp only [c2, c3, c9, List.drop_succ_cons, List.drop_zero, List.take_succ_cons, List.take_zero] at k0 k1 k2 k3 k4 k5 k6 k7
    obtain ⟨n0, e0, _⟩ := k0.int i3_und
    obtain ⟨n1, e1, _⟩ := k1.int i3_und
    obtain ⟨n2, e2, _⟩ := k2.int i3_und
    obtain ⟨n3, e3, _⟩ := k3.int i2_und
    obtain ⟨n4, e4, _⟩ := k4.int i2_und
    obtain ⟨n5, e5, _⟩ := k5.int i2_und
    obtain ⟨n6, e6, _⟩ := k6.int i2_und
    obtain ⟨s, e7, _⟩ := k7.string str_und
    simp only [List.cons.injEq, and_true] at e0 e1 e2 e3 e4 e5 e6 e7
    subst e0 e1 e2 e3 e4 e5 e6 e7
    exact ⟨⟨n0, n1, n2, n3, n4, n5, n6, s⟩, rfl⟩
end
end Go.Proofs.Ytegogggemmcgdaa
namespace Go.Proofs.Ytegogggemmcgdaa
open Go Go.RowKit Go.Proofs Go.ChangeShapes Go.WideShapes Go.Deep
theorem flat_one {α : Type} (f : α → Value) (l : List α) : l.flatMap (fun y => [f y]) = l.map f := by
  induction l with
  | nil => rfl
  | cons a l ih => simp only [List.flatMap_cons, List.map_cons, ih, List.cons_append, List.nil_append]
theorem wf_i64 {n : Int} (h : (Lit.int .i64 n).wf = true) : -9223372036854775808 ≤ n ∧ n ≤ 9223372036854775807 := by
  simp only [Lit.wf, IntKind.min, IntKind.max, IntKind.signed, IntKind.bits] at h
  simp at h
  omega
section
variable {H : Type} {enc : TypeId × Value → H} {w : World} {base : Nat} {spare : Nat → Bool} {held : Bool}
theorem rd_msgs {v : Value} {d : DataW H} {p : List MemPlace} (h : DataW.Trod enc Try.prog w base spare held 22 v d p) (hv : ∃ a l c, v = .slice a l c) :
    ∃ (A : Option Addr) (c : Nat) (xs : List Msg) (e : TypeId), v = .slice A xs.length c ∧ xs.length ≤ maxLen ∧ Sl w e 8 A xs.length (xs.flatMap Msg.vals) := by
  obtain ⟨a, l, c, rfl⟩ := hv
  obtain ⟨fuel, hf⟩ := h
  obtain ⟨A, n, c', xs, e', h1, _, h3, h4, rfl, h6, _⟩ := Rd.slice (p := fun _ => True) Msg.vals 8 (by omega) ⟨fuel, _, hf⟩ Try.underlying22 (by kernel_rfl) (fun _ => rfl) (fun cs' hr => by obtain ⟨x, hx⟩ := rd_msg hr; exact ⟨x, hx, trivial⟩)
  simp only [Value.cells, List.cons.injEq, and_true] at h1
  exact ⟨A, c', xs, e', h1, by omega, h6⟩
theorem rd_ints {v : Value} {d : DataW H} {p : List MemPlace} (h : DataW.Trod enc Try.prog w base spare held 23 v d p) (hv : ∃ a l c, v = .slice a l c) :
    ∃ (A : Option Addr) (c : Nat) (xs : List Int) (e : TypeId), v = .slice A xs.length c ∧ xs.length ≤ maxLen ∧ Sl w e 1 A xs.length (xs.map (Value.int .i64)) ∧ ∀ y ∈ xs, -9223372036854775808 ≤ y ∧ y ≤ 9223372036854775807 := by
  obtain ⟨a, l, c, rfl⟩ := hv
  obtain ⟨fuel, hf⟩ := h
  obtain ⟨A, n, c', xs, e', h1, _, h3, h4, rfl, h6, h7⟩ := Rd.slice (p := fun y => -9223372036854775808 ≤ y ∧ y ≤ 9223372036854775807) (fun y : Int => [Value.int .i64 y]) 1 (by omega) ⟨fuel, _, hf⟩ Try.underlying23 (by kernel_rfl) (fun _ => rfl)
    (fun cs' hr => by obtain ⟨x, hx, hw⟩ := hr.int i3_und; exact ⟨x, hx, wf_i64 hw⟩)
  simp only [Value.cells, List.cons.injEq, and_true] at h1
  rw [flat_one] at h6
  exact ⟨A, c', xs, e', h1, by omega, h6, h7⟩
end
end Go.Proofs.Ytegogggemmcgdaa
