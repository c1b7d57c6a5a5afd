/- wire: what can be a link, a message. -/
import Derived.Test.YtegogggemmcgdaaMaps
import Derived.Test.YtegogggemmcgdaaProg
namespace Go.Proofs.Ytegogggemmcgdaa
open Go Go.RowKit Go.Proofs

structure Msg where
  frm : Int
  to_ : Int
  kind : Int
  n : Int
  low : Int
  mins : Int
  code : Int
  text : ByteArray
abbrev Msg.vals (m : Msg) : List Value := [.int .i64 m.frm, .int .i64 m.to_, .int .i64 m.kind, .int .i64 m.n, .int .i64 m.low, .int .i64 m.mins, .int .i64 m.code, .string m.text]
abbrev Msg.val (m : Msg) : Value := .agg #[.int .i64 m.frm, .int .i64 m.to_, .int .i64 m.kind, .int .i64 m.n, .int .i64 m.low, .int .i64 m.mins, .int .i64 m.code, .string m.text]

def linkB (a b : Int) : Bool := decide (0 ≤ a) && decide (b < 8) && (a != b)
def inR (n : Int) : Bool := decide (0 ≤ n) && decide (n ≤ 4611686018427387904)
def rightB (m : Msg) : Bool := inR m.n && inR m.low && inR m.mins && (linkB (min m.frm m.to_) (max m.frm m.to_) && decide (1 ≤ m.kind) && decide (m.kind ≤ 9) && decide (m.text.size ≤ 20))

theorem ret_bool {a b : Bool} (h : a = b) : Ending.returned (.bool a) = .returned (.bool b) := by rw [h]

set_option maxHeartbeats 400000 in
theorem linkOf_any (a b : Int) (w : World) :
    Calls Try.prog 91 #[.int .i64 a, .int .i64 b] w fun e w' => e = .returned (.agg #[.int .i64 (min a b), .int .i64 (max a b)]) ∧ Fr No w w' := by
  by_cases h : a < b
  · have h1 : ¬ b < a := by omega
    have e1 : min a b = a := by omega
    have e2 : max a b = b := by omega
    rw [e1, e2]
    clear e1 e2
    go_enter Try.func91, Try.ntmps91
    go_wp2
    exact bodyPost_ret (v := .agg #[.int .i64 a, .int .i64 b]) (by simp [results, Try.results91, go_sem]) rfl ⟨rfl, (Fr.refl _ _).alloc _⟩
  · have e1 : min a b = b := by omega
    have e2 : max a b = a := by omega
    rw [e1, e2]
    clear e1 e2
    by_cases h1 : b < a
    · go_enter Try.func91, Try.ntmps91
      go_wp2
      exact bodyPost_ret (v := .agg #[.int .i64 b, .int .i64 a]) (by simp [results, Try.results91, go_sem]) rfl ⟨rfl, (Fr.refl _ _).alloc _⟩
    · obtain rfl : a = b := by omega
      go_enter Try.func91, Try.ntmps91
      go_wp2
      exact bodyPost_ret (v := .agg #[.int .i64 a, .int .i64 a]) (by simp [results, Try.results91, go_sem]) rfl ⟨rfl, (Fr.refl _ _).alloc _⟩

theorem linkRight_any (a b : Int) (w : World) :
    Calls Try.prog 92 #[.agg #[.int .i64 a, .int .i64 b]] w fun e w' => e = .returned (.bool (linkB a b)) ∧ Fr No w w' := by
  by_cases h1 : 0 ≤ a
  · by_cases h2 : b < 8
    · have e : linkB a b = (a != b) := by simp [linkB, h1, h2]
      rw [e]; clear e
      go_enter Try.func92, Try.ntmps92
      go_wp2
      go_ret
      exact ⟨rfl, (Fr.refl _ _).alloc _⟩
    · have e : linkB a b = false := by simp [linkB, h2]
      rw [e]; clear e
      go_enter Try.func92, Try.ntmps92
      go_wp2
      go_ret
      exact ⟨rfl, (Fr.refl _ _).alloc _⟩
  · have e : linkB a b = false := by simp [linkB, h1]
    rw [e]; clear e
    go_enter Try.func92, Try.ntmps92
    go_wp2
    go_ret
    exact ⟨rfl, (Fr.refl _ _).alloc _⟩

def Step3 (m : Msg) (i : Value) : Prop :=
  i = .int .i64 0 ∨ (i = .int .i64 1 ∧ inR m.n = true) ∨ (i = .int .i64 2 ∧ inR m.n = true ∧ inR m.low = true) ∨ (i = .int .i64 3 ∧ inR m.n = true ∧ inR m.low = true ∧ inR m.mins = true)
theorem inR_of (n : Int) (h : 0 ≤ n) (h' : n ≤ 4611686018427387904) : inR n = true := by simp [inR, h, h']
theorem inR_lo (n : Int) (h : n < 0) : inR n = false := by simp [inR]; omega
theorem inR_hi (n : Int) (h : 4611686018427387904 < n) : inR n = false := by simp [inR]; omega

set_option maxRecDepth 100000 in
set_option maxHeartbeats 1000000 in
theorem msgRight_any (m : Msg) (w : World) :
    Calls Try.prog 52 #[m.val] w fun e w' => e = .returned (.bool (rightB m)) ∧ Fr No w w' := by
  have i0 : ∀ (x y z : Value) (w : World), (Instr.index 152 (.agg #[x, y, z]) (.int .i64 0)).run Try.prog w = .ok x w := fun _ _ _ _ => by kernel_rfl
  have i1 : ∀ (x y z : Value) (w : World), (Instr.index 152 (.agg #[x, y, z]) (.int .i64 1)).run Try.prog w = .ok y w := fun _ _ _ _ => by kernel_rfl
  have i2 : ∀ (x y z : Value) (w : World), (Instr.index 152 (.agg #[x, y, z]) (.int .i64 2)).run Try.prog w = .ok z w := fun _ _ _ _ => by kernel_rfl
  go_enter Try.func52, Try.ntmps52
  go_wp2
  go_loop [4, 12] (fun _ i => Step3 m i) (fun _ i => 3 - (intOf i).toNat)
  case atStart => exact .inl rfl
  case round =>
    rcases hrel with rfl | ⟨rfl, h1⟩ | ⟨rfl, h1, h2⟩ | ⟨rfl, h1, h2, h3⟩
    · go_wp2
      all_goals first
        | exact ⟨.inr (.inl ⟨rfl, by simp [inR]; omega⟩), by simp [intOf]⟩
        | (go_ret; exact ⟨ret_bool (by rw [rightB, show inR m.n = false from by simp [inR]; omega]; rfl), (Fr.refl _ _).alloc _⟩)
    · have H1 := Lib.hid h1
      clear h1
      go_wp2
      all_goals first
        | exact ⟨.inr (.inr (.inl ⟨rfl, H1.out, by simp [inR]; omega⟩)), by simp [intOf]⟩
        | (go_ret; exact ⟨ret_bool (by rw [rightB, show inR m.low = false from by simp [inR]; omega]; simp), (Fr.refl _ _).alloc _⟩)
    · have H1 := Lib.hid h1
      have H2 := Lib.hid h2
      clear h1 h2
      go_wp2
      all_goals first
        | exact ⟨.inr (.inr (.inr ⟨rfl, H1.out, H2.out, by simp [inR]; omega⟩)), by simp [intOf]⟩
        | (go_ret; exact ⟨ret_bool (by rw [rightB, show inR m.mins = false from by simp [inR]; omega]; simp), (Fr.refl _ _).alloc _⟩)
    · have key : rightB m = (linkB (min m.frm m.to_) (max m.frm m.to_) && decide (1 ≤ m.kind) && decide (m.kind ≤ 9) && decide (m.text.size ≤ 20)) := by simp [rightB, h1, h2, h3]
      have HK := Lib.hid key
      clear key h1 h2 h3
      cases hL : linkB (min m.frm m.to_) (max m.frm m.to_)
      all_goals
        go_wp2_with (first
          | (go_at_call 91; refine (linkOf_any _ _ _).mono ?_; rintro e w1 ⟨rfl, hf1⟩; have hc1 := hf1.cells; have hz1 : w.heap.size < w1.heap.size := by have := hf1.size; simp at this; omega)
          | (go_at_call 92; refine (linkRight_any _ _ _).mono ?_; rintro e w2 ⟨rfl, hf2⟩; have hc2 := hf2.cells))
        all_goals go_ret
        all_goals refine ⟨ret_bool (by rw [HK.out, hL, Bool.eq_iff_iff]; simp <;> omega), ?_⟩
        all_goals exact (((Fr.refl _ _).alloc _).trans hf1).trans hf2
end Go.Proofs.Ytegogggemmcgdaa
