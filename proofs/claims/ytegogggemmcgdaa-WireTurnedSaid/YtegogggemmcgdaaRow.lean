/- What an argument's reading tells of its cells. -/
import Derived.Test.YtegogggemmcgdaaLib
import Derived.ProofKit
import Derived.OpenShut
import Derived.ShutString
import Derived.ChangeOld
import Derived.SizedLaws
import Derived.Deep.Slices
import Derived.Deep.Fields
namespace Go.Proofs.Ytegogggemmcgdaa
open Go Go.RowKit Go.ChangeShapes Go.WideShapes Go.Deep

section
variable {H : Type} {enc : TypeId × Value → H} {P : Program} {w : World} {base : Nat} {spare : Nat → Bool} {held : Bool}
/-- these cells read as a value of type t -/
def Rd (enc : TypeId × Value → H) (P : Program) (w : World) (base : Nat) (spare : Nat → Bool) (held : Bool) (t : TypeId) (cs : List Value) : Prop :=
  ∃ fuel x, DataW.trod enc P w base spare held fuel t cs = some x
theorem Rd.int {t : TypeId} {k : IntKind} {cs : List Value} (h : Rd enc P w base spare held t cs) (ht : P.underlying t = some (.int k)) : ∃ n, cs = [.int k n] ∧ (Lit.int k n).wf = true := by
  obtain ⟨f, x, h⟩ := h
  obtain ⟨n, h1, _, h2⟩ := DataW.trod_int ht h
  exact ⟨n, h1, h2⟩
theorem Rd.bool {t : TypeId} {cs : List Value} (h : Rd enc P w base spare held t cs) (ht : P.underlying t = some .bool) : ∃ b, cs = [.bool b] := by
  obtain ⟨f, x, h⟩ := h
  obtain ⟨n, h1, _⟩ := DataW.trod_bool ht h
  exact ⟨n, h1⟩
theorem Rd.string {t : TypeId} {cs : List Value} (h : Rd enc P w base spare held t cs) (ht : P.underlying t = some .string) : ∃ s : ByteArray, cs = [.string s] ∧ s.size ≤ maxLen := by
  obtain ⟨f, x, h⟩ := h
  obtain ⟨n, h1, _, h2⟩ := DataW.trod_string ht h
  exact ⟨n, h1, h2⟩
theorem Rd.struct {t : TypeId} {fs : Array Field} {cs : List Value} (h : Rd enc P w base spare held t cs) (ht : P.underlying t = some (.struct fs)) :
    cs.length = P.cellsOf t ∧ ∀ (i : Nat) (f : Field), fs[i]? = some f → Rd enc P w base spare held f.type ((cs.drop f.offset).take (P.cellsOf f.type)) := by
  obtain ⟨fuel, x, h⟩ := h
  obtain ⟨xs, n, _, _, h1, h2, h3⟩ := DataW.trod_struct ht h
  refine ⟨h1, fun i f hf => ?_⟩
  have h4 := h3 i f hf
  have hi := (Array.getElem?_eq_some_iff.1 hf).1
  rw [List.getElem?_eq_getElem (by omega)] at h4
  exact ⟨n, _, h4⟩
theorem list_of {α : Type} {p : Nat → α → Prop} : ∀ (n : Nat), (∀ i, i < n → ∃ x, p i x) → ∃ xs : List α, xs.length = n ∧ ∀ i x, xs[i]? = some x → p i x
  | 0, _ => ⟨[], rfl, fun i x h => by simp at h⟩
  | n + 1, h => by
    obtain ⟨xs, hl, hx⟩ := list_of n fun i hi => h i (by omega)
    obtain ⟨y, hy⟩ := h n (by omega)
    refine ⟨xs ++ [y], by simp [hl], fun i x hi => ?_⟩
    rcases Nat.lt_or_ge i xs.length with h1 | h1
    · rw [List.getElem?_append_left h1] at hi
      exact hx i x hi
    · rw [List.getElem?_append_right h1] at hi
      have : i - xs.length = 0 := by
        have := (List.getElem?_eq_some_iff.1 hi).1
        simp at this
        omega
      rw [this] at hi
      simp at hi
      subst hi
      have : i = n := by omega
      rw [this]
      exact hy
theorem flat_at {α : Type} (f : α → List Value) (sz : Nat) (hf : ∀ x, (f x).length = sz) {l : List α} {k : Nat} {x : α} (hx : l[k]? = some x) (j : Nat) (hj : j < sz) : (l.flatMap f)[k * sz + j]? = (f x)[j]? := by
  induction l generalizing k with
  | nil => simp at hx
  | cons m l ih =>
    cases k with
    | zero =>
      simp only [List.getElem?_cons_zero, Option.some.injEq] at hx
      subst hx
      simp only [List.flatMap_cons, Nat.zero_mul, Nat.zero_add]
      rw [List.getElem?_append_left (by rw [hf]; exact hj)]
    | succ k =>
      simp only [List.getElem?_cons_succ] at hx
      have e : (k + 1) * sz + j = (k * sz + j) + sz := by rw [Nat.add_mul]; omega
      rw [e]
      simp only [List.flatMap_cons]
      rw [List.getElem?_append_right (by rw [hf]; omega), hf]
      simpa using ih hx
theorem flat_len {α : Type} (f : α → List Value) (sz : Nat) (hf : ∀ x, (f x).length = sz) (l : List α) : (l.flatMap f).length = l.length * sz := by
  induction l with
  | nil => simp
  | cons m l ih => simp only [List.flatMap_cons, List.length_append, ih, hf, List.length_cons, Nat.add_mul]; omega
/-- a slice whose elements read as something known -/
theorem Rd.slice {α : Type} (f : α → List Value) {p : α → Prop} {t e : TypeId} {cs : List Value} (sz : Nat) (hsz : 0 < sz) (h : Rd enc P w base spare held t cs) (ht : P.underlying t = some (.slice e)) (hc : P.cellsOf e = sz) (hf : ∀ x, (f x).length = sz)
    (he : ∀ cs', Rd enc P w base spare held e cs' → ∃ x, cs' = f x ∧ p x) :
    ∃ (A : Option Addr) (n c : Nat) (xs : List α) (e' : TypeId), cs = [.slice A n c] ∧ (A = none → n = 0 ∧ c = 0) ∧ n ≤ c ∧ c ≤ maxLen ∧ xs.length = n ∧ Sl w e' sz A n (xs.flatMap f) ∧ ∀ x ∈ xs, p x := by
  obtain ⟨fuel, x, h⟩ := h
  rcases open_slice ht h with ⟨rfl, _⟩ | ⟨a, len, cap, m, n, D, Pl, rfl, _, hl, hm, hmm, _, hi⟩
  · exact ⟨none, 0, 0, [], 0, rfl, fun _ => ⟨rfl, rfl⟩, Nat.le_refl _, by simp [maxLen], rfl, Sl.nil _ _ _ _, by simp⟩
  · have hlm : len ≤ m := by rw [hmm]; split <;> omega
    have h1 : ∀ i, i < len → ∃ x, p x ∧ ∀ j, j < sz → w.cell? (a.add (i * sz + j)) = (f x)[j]? := fun i hil => by
      obtain ⟨cs', hc', ht'⟩ := hi i (by omega)
      rw [hc] at hc'
      obtain ⟨x, rfl, hp⟩ := he cs' ⟨n, _, ht'⟩
      obtain ⟨_, _, hcell⟩ := World.cells?_some hc'
      refine ⟨x, hp, fun j hj => ?_⟩
      rw [← hcell j hj, Go.Deep.add_add]
    obtain ⟨xs, hxl, hxs⟩ := list_of len h1
    have hp : ∀ x ∈ xs, p x := fun x hx => by
      obtain ⟨i, hi'⟩ := List.getElem?_of_mem hx
      exact (hxs i x hi').1
    rcases Nat.eq_zero_or_pos len with h0 | h0
    · subst h0
      have : xs = [] := List.eq_nil_of_length_eq_zero hxl
      subst this
      exact ⟨some a, 0, cap, [], 0, rfl, by simp, hl, hm, rfl, Sl.nil _ _ _ _, by simp⟩
    · have hx0 : xs[0]? = some xs[0] := List.getElem?_eq_getElem (by omega)
      have hfl := hf xs[0]
      have hc0 : w.cell? (a.add 0) = (f xs[0])[0]? := by simpa using (hxs 0 _ hx0).2 0 hsz
      have ha0 : a.add 0 = a := by simp [Addr.add]
      rw [ha0, List.getElem?_eq_getElem (by omega)] at hc0
      obtain ⟨b, o, sp⟩ := a
      have hcells : ∃ cur e' fr, w.heap[b]? = some (Obj.cells cur e' fr) ∧ sp = none := by
        unfold World.cell? at hc0
        split at hc0
        · rename_i cur e' fr hh
          refine ⟨cur, e', fr, hh, ?_⟩
          cases sp with
          | none => rfl
          | some q => simp at hc0
        · cases hc0
      obtain ⟨cur, e', fr, hh, rfl⟩ := hcells
      refine ⟨some ⟨b, o, none⟩, len, cap, xs, e', rfl, by simp, hl, hm, hxl, ⟨by rw [flat_len f sz hf, hxl], fun _ => ⟨b, o, cur, fr, rfl, hh, fun j u hu => ?_⟩⟩, hp⟩
      have hjl := (List.getElem?_eq_some_iff.1 hu).1
      rw [flat_len f sz hf] at hjl
      have hq : j / sz < xs.length := Nat.div_lt_of_lt_mul (by rw [Nat.mul_comm]; exact hjl)
      have hxq : xs[j / sz]? = some xs[j / sz] := List.getElem?_eq_getElem hq
      have hj : (j / sz) * sz + j % sz = j := by rw [Nat.mul_comm]; exact Nat.div_add_mod j sz
      have h2 := (hxs _ _ hxq).2 (j % sz) (Nat.mod_lt _ hsz)
      rw [hj] at h2
      rw [← flat_at f sz hf hxq (j % sz) (Nat.mod_lt _ hsz), hj, hu, add_off, cell_of_row w b (o + j) cur e' fr hh] at h2
      exact h2
end
end Go.Proofs.Ytegogggemmcgdaa
