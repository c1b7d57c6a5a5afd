/- bytes that come in. -/
import Derived.Test.YtegogggemmcgdaaMsgRow
import Derived.Test.YtegogggemmcgdaaBuf
namespace Go.Proofs.Ytegogggemmcgdaa
open Go Go.RowKit Go.Proofs Go.ChangeShapes Go.WideShapes Go.Deep

theorem wf_u8 {n : Int} (h : (Lit.int .u8 n).wf = true) : 0 ≤ n ∧ n ≤ 255 := by
  simp only [Lit.wf, IntKind.min, IntKind.max, IntKind.signed, IntKind.bits] at h
  simp at h
  omega
theorem u8_of {n : Int} (h : (Lit.int .u8 n).wf = true) : ∃ b : UInt8, n = (b.toNat : Int) := by
  obtain ⟨h0, h1⟩ := wf_u8 h
  refine ⟨UInt8.ofNat n.toNat, ?_⟩
  have : (UInt8.ofNat n.toNat).toNat = n.toNat % 256 := UInt8.toNat_ofNat'
  omega
section
variable {H : Type} {enc : TypeId × Value → H} {w : World} {base : Nat} {spare : Nat → Bool} {held : Bool}
theorem rd_code {cs : List Value} (h : Rd enc Try.prog w base spare held 30 cs) {x : Msg} (hx : cs = x.vals) : -9223372036854775808 ≤ x.code ∧ x.code ≤ 9223372036854775807 := by
  have hfs := refMsg_fields
  obtain ⟨hlen, hf⟩ := h.struct refMsg_und
  generalize Try.prog.fieldsOf 30 = fs at hfs hf
  have c2 : Try.prog.cellsOf 2 = 1 := by kernel_rfl
  have h6 : (fs.toList.map (fun f => (f.type, f.offset)))[6]? = some (2, 6) := by rw [hfs]; rfl
  rw [List.getElem?_map] at h6
  cases hfi : fs.toList[6]? with
  | none => rw [hfi] at h6; cases h6
  | some f =>
    rw [hfi] at h6
    simp only [Option.map_some, Option.some.injEq, Prod.mk.injEq] at h6
    obtain ⟨e1, e2⟩ := h6
    have k6 := hf 6 f (by simpa using hfi)
    rw [e1, e2, c2, hx] at k6
    simp only [List.drop_succ_cons, List.drop_zero, List.take_succ_cons, List.take_zero] at k6
    obtain ⟨n, en, hw⟩ := k6.int i2_und
    simp only [List.cons.injEq, and_true, Value.int.injEq, true_and] at en
    subst en
    exact wf_i64 hw
theorem rd_u8 {cs : List Value} (h : Rd enc Try.prog w base spare held 5 cs) : ∃ b : UInt8, cs = [.int .u8 (b.toNat : Int)] := by
  obtain ⟨n, rfl, hw⟩ := h.int byte_und
  obtain ⟨h0, h1⟩ := wf_u8 hw
  refine ⟨UInt8.ofNat n.toNat, ?_⟩
  have : (UInt8.ofNat n.toNat).toNat = n.toNat % 256 := UInt8.toNat_ofNat'
  rw [this]
  congr 2
  omega
theorem rd_bytes {v : Value} {d : DataW H} {p : List MemPlace} (h : DataW.Trod enc Try.prog w base spare held 50 v d p) (hv : ∃ a l c, v = .slice a l c) :
    ∃ (A : Option Addr) (c : Nat) (l : Bs) (e : TypeId), v = .slice A l.length c ∧ l.length ≤ c ∧ l.length ≤ maxLen ∧ Sl w e 1 A l.length (enc8 l) ∧ (l.length = 0 ∨ ∃ elems spare, d = .slice elems spare ∧ elems.length = l.length) := by
  obtain ⟨a, l, c, rfl⟩ := hv
  obtain ⟨fuel, hf⟩ := h
  obtain ⟨A, n, c', xs, e', h1, _, h3, h4, rfl, h6, _⟩ := Rd.slice (p := fun _ => True) (fun b : UInt8 => [Value.int .u8 (b.toNat : Int)]) 1 (by omega) ⟨fuel, _, hf⟩ Try.underlying50 (by kernel_rfl) (fun _ => rfl)
    (fun cs' hr => by obtain ⟨x, hx⟩ := rd_u8 hr; exact ⟨x, hx, trivial⟩)
  simp only [Value.cells, List.cons.injEq, and_true] at h1
  rw [flat_one] at h6
  refine ⟨A, c', xs, e', h1, h3, by omega, h6, ?_⟩
  rcases open_slice Try.underlying50 hf with ⟨h0, _⟩ | ⟨a', len, cap, m, n', D, Pl, h0, _, _, _, _, hx, _⟩
  · left
    simp only [Value.cells, List.cons.injEq, and_true] at h0
    rw [h0] at h1
    injection h1 with _ h2 _
    exact h2.symm
  · right
    simp only [Value.cells, List.cons.injEq, and_true] at h0
    rw [h0] at h1
    injection h1 with _ h2 _
    injection hx with hx _
    exact ⟨_, _, hx, by simp [h2]⟩
end
end Go.Proofs.Ytegogggemmcgdaa
