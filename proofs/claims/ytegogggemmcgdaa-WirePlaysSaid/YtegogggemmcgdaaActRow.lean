/- acts that come in. -/
import Derived.Test.YtegogggemmcgdaaMsgRow
import Derived.Test.YtegogggemmcgdaaOnceW
namespace Go.Proofs.Ytegogggemmcgdaa
open Go Go.RowKit Go.Proofs Go.ChangeShapes Go.WideShapes Go.Deep

theorem act_und : Try.prog.underlying 42 = some (.struct (Try.prog.fieldsOf 42)) := by kernel_rfl
theorem act_fields : (Try.prog.fieldsOf 42).toList.map (fun f => (f.type, f.offset)) = [(3, 0), (30, 1), (3, 9), (3, 10)] := by kernel_rfl
section
variable {H : Type} {enc : TypeId × Value → H} {w : World} {base : Nat} {spare : Nat → Bool} {held : Bool}
set_option maxRecDepth 100000 in
theorem rd_act {cs : List Value} (h : Rd enc Try.prog w base spare held 42 cs) : ∃ x : AAct, cs = x.vals ∧ (-9223372036854775808 ≤ x.i ∧ x.i ≤ 9223372036854775807) ∧ (-9223372036854775808 ≤ x.j ∧ x.j ≤ 9223372036854775807) := by
  have hfs := act_fields
  obtain ⟨hlen, hf⟩ := h.struct act_und
  generalize Try.prog.fieldsOf 42 = fs at hfs hf
  have hc : Try.prog.cellsOf 42 = 11 := by kernel_rfl
  have c3 : Try.prog.cellsOf 3 = 1 := by kernel_rfl
  have c8 : Try.prog.cellsOf 30 = 8 := by kernel_rfl
  rw [hc] at hlen
  match cs, hlen with
  | [a0, a1, a2, a3, a4, a5, a6, a7, a8, a9, a10], _ =>
    have key : ∀ (i : Nat) (ty o : Nat), (fs.toList.map (fun f => (f.type, f.offset)))[i]? = some (ty, o) → Rd enc Try.prog w base spare held ty (([a0, a1, a2, a3, a4, a5, a6, a7, a8, a9, a10].drop o).take (Try.prog.cellsOf ty)) := by
      intro i ty o hi
      rw [List.getElem?_map] at hi
      cases hfi : fs.toList[i]? with
      | none => rw [hfi] at hi; cases hi
      | some f =>
        rw [hfi] at hi
        simp only [Option.map_some, Option.some.injEq, Prod.mk.injEq] at hi
        obtain ⟨rfl, rfl⟩ := hi
        exact hf i f (by simpa using hfi)
    rw [hfs] at key
    have k0 := key 0 3 0 rfl
    have k1 := key 1 30 1 rfl
    have k2 := key 2 3 9 rfl
    have k3 := key 3 3 10 rfl
    simp only [c3, c8, List.drop_succ_cons, List.drop_zero, List.take_succ_cons, List.take_zero] at k0 k1 k2 k3
    obtain ⟨n0, e0, _⟩ := k0.int i3_und
    obtain ⟨y, e1⟩ := rd_msg k1
    obtain ⟨n2, e2, w2⟩ := k2.int i3_und
    obtain ⟨n3, e3, w3⟩ := k3.int i3_und
    simp only [List.cons.injEq, and_true] at e0 e1 e2 e3
    obtain ⟨r0, r1, r2, r3, r4, r5, r6, r7⟩ := e1
    subst e0 e2 e3 r0 r1 r2 r3 r4 r5 r6 r7
    exact ⟨⟨n0, y, n2, n3⟩, rfl, wf_i64 w2, wf_i64 w3⟩
theorem rd_acts {v : Value} {d : DataW H} {p : List MemPlace} (h : DataW.Trod enc Try.prog w base spare held 40 v d p) (hv : ∃ a l c, v = .slice a l c) :
    ∃ (A : Option Addr) (c : Nat) (xs : List AAct) (e : TypeId), v = .slice A xs.length c ∧ xs.length ≤ maxLen ∧ Sl w e 11 A xs.length (xs.flatMap AAct.vals) ∧
      ∀ x ∈ xs, (-9223372036854775808 ≤ x.i ∧ x.i ≤ 9223372036854775807) ∧ (-9223372036854775808 ≤ x.j ∧ x.j ≤ 9223372036854775807) := by
  obtain ⟨a, l, c, rfl⟩ := hv
  obtain ⟨fuel, hf⟩ := h
  obtain ⟨A, n, c', xs, e', h1, _, h3, h4, rfl, h6, h7⟩ := Rd.slice (p := fun x : AAct => (-9223372036854775808 ≤ x.i ∧ x.i ≤ 9223372036854775807) ∧ (-9223372036854775808 ≤ x.j ∧ x.j ≤ 9223372036854775807)) AAct.vals 11 (by omega) ⟨fuel, _, hf⟩ Try.underlying40 (by kernel_rfl) (fun _ => rfl) (fun cs' hr => rd_act hr)
  simp only [Value.cells, List.cons.injEq, and_true] at h1
  exact ⟨A, c', xs, e', h1, by omega, h6, h7⟩
end
end Go.Proofs.Ytegogggemmcgdaa
