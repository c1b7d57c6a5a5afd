/- ref.Net: what can be a message; may one come? -/
import Derived.Test.YtegogggemmcgdaaWireD
namespace Go.Proofs.Ytegogggemmcgdaa
open Go Go.RowKit Go.Proofs

def placeB (n : Int) : Bool := decide (0 ≤ n) && decide (n < 8)
theorem place_any (n : Int) (w : World) :
    Calls Try.prog 107 #[.int .i64 n] w fun e w' => e = .returned (.bool (placeB n)) ∧ w' = w := by
  by_cases h : 0 ≤ n
  · have e : placeB n = decide (n < 8) := by simp [placeB, h]
    rw [e]
    clear e
    go_enter Try.func107, Try.ntmps107
    go_wp2
    go_ret
    exact ⟨rfl, rfl⟩
  · have e : placeB n = false := by simp [placeB, h]
    rw [e]
    clear e
    go_enter Try.func107, Try.ntmps107
    go_wp2
    go_ret
    exact ⟨rfl, rfl⟩
theorem number_any (n : Int) (w : World) :
    Calls Try.prog 108 #[.int .i64 n] w fun e w' => e = .returned (.bool (inR n)) ∧ w' = w := by
  by_cases h : 0 ≤ n
  · have e : inR n = decide (n ≤ 4611686018427387904) := by simp [inR, h]
    rw [e]
    clear e
    go_enter Try.func108, Try.ntmps108
    go_wp2
    go_ret
    exact ⟨rfl, rfl⟩
  · have e : inR n = false := by simp [inR, h]
    rw [e]
    clear e
    go_enter Try.func108, Try.ntmps108
    go_wp2
    go_ret
    exact ⟨rfl, rfl⟩
theorem rightB_flat (y : Msg) : rightB y = (placeB y.frm && (placeB y.to_ && ((y.frm != y.to_) && (decide (1 ≤ y.kind) && (decide (y.kind ≤ 9) && (inR y.n && (inR y.low && (inR y.mins && decide (y.text.size ≤ 20))))))))) := by
  rw [Bool.eq_iff_iff]
  simp only [rightB, inR, linkB, placeB, Bool.and_eq_true, decide_eq_true_eq, bne_iff_ne]
  omega
set_option maxRecDepth 100000 in
set_option maxHeartbeats 2000000 in
theorem refRight_any (y : Msg) (w : World) :
    Calls Try.prog 86 #[y.val] w fun e w' => e = .returned (.bool (rightB y)) ∧ Fr No w w' := by
  have HE := Lib.hid (rightB_flat y)
  cases h1 : placeB y.frm
  · have E := Lib.hid (show false = rightB y by rw [HE.out, h1]; rfl)
    go_enter Try.func86, Try.ntmps86
    go_wp2_with (first
      | (go_at_call 107; refine (place_any _ _).mono ?_; rintro e w1 ⟨rfl, rfl⟩)
      | (go_at_call 108; refine (number_any _ _).mono ?_; rintro e w1 ⟨rfl, rfl⟩))
    go_ret
    exact ⟨ret_bool E.out, (Fr.refl _ _).alloc _⟩
  · cases h2 : placeB y.to_
    · have E := Lib.hid (show false = rightB y by rw [HE.out, h1, h2]; rfl)
      go_enter Try.func86, Try.ntmps86
      go_wp2_with (first
        | (go_at_call 107; refine (place_any _ _).mono ?_; rintro e w1 ⟨rfl, rfl⟩)
        | (go_at_call 108; refine (number_any _ _).mono ?_; rintro e w1 ⟨rfl, rfl⟩))
      go_ret
      exact ⟨ret_bool E.out, (Fr.refl _ _).alloc _⟩
    · cases h3 : (y.frm != y.to_)
      · have E := Lib.hid (show false = rightB y by rw [HE.out, h1, h2, h3]; rfl)
        go_enter Try.func86, Try.ntmps86
        go_wp2_with (first
          | (go_at_call 107; refine (place_any _ _).mono ?_; rintro e w1 ⟨rfl, rfl⟩)
          | (go_at_call 108; refine (number_any _ _).mono ?_; rintro e w1 ⟨rfl, rfl⟩))
        go_ret
        exact ⟨ret_bool E.out, (Fr.refl _ _).alloc _⟩
      · by_cases h4 : 1 ≤ y.kind
        · by_cases h5 : y.kind ≤ 9
          · cases h6 : inR y.n
            · have E := Lib.hid (show false = rightB y by rw [HE.out, h6]; simp)
              go_enter Try.func86, Try.ntmps86
              go_wp2_with (first
                | (go_at_call 107; refine (place_any _ _).mono ?_; rintro e w1 ⟨rfl, rfl⟩)
                | (go_at_call 108; refine (number_any _ _).mono ?_; rintro e w1 ⟨rfl, rfl⟩))
              go_ret
              exact ⟨ret_bool E.out, (Fr.refl _ _).alloc _⟩
            · cases h7 : inR y.low
              · have E := Lib.hid (show false = rightB y by rw [HE.out, h7]; simp)
                go_enter Try.func86, Try.ntmps86
                go_wp2_with (first
                  | (go_at_call 107; refine (place_any _ _).mono ?_; rintro e w1 ⟨rfl, rfl⟩)
                  | (go_at_call 108; refine (number_any _ _).mono ?_; rintro e w1 ⟨rfl, rfl⟩))
                go_ret
                exact ⟨ret_bool E.out, (Fr.refl _ _).alloc _⟩
              · cases h8 : inR y.mins
                · have E := Lib.hid (show false = rightB y by rw [HE.out, h8]; simp)
                  go_enter Try.func86, Try.ntmps86
                  go_wp2_with (first
                    | (go_at_call 107; refine (place_any _ _).mono ?_; rintro e w1 ⟨rfl, rfl⟩)
                    | (go_at_call 108; refine (number_any _ _).mono ?_; rintro e w1 ⟨rfl, rfl⟩))
                  go_ret
                  exact ⟨ret_bool E.out, (Fr.refl _ _).alloc _⟩
                · have E := Lib.hid (show decide (y.text.size ≤ 20) = rightB y by rw [HE.out, h1, h2, h3, h6, h7, h8]; simp [h4, h5])
                  go_enter Try.func86, Try.ntmps86
                  go_wp2_with (first
                    | (go_at_call 107; refine (place_any _ _).mono ?_; rintro e w1 ⟨rfl, rfl⟩)
                    | (go_at_call 108; refine (number_any _ _).mono ?_; rintro e w1 ⟨rfl, rfl⟩))
                  go_ret
                  exact ⟨ret_bool (by rw [← E.out]; rw [Bool.eq_iff_iff]; simp only [decide_eq_true_eq]; omega), (Fr.refl _ _).alloc _⟩
          · have E := Lib.hid (show false = rightB y by rw [HE.out]; simp [h5])
            go_enter Try.func86, Try.ntmps86
            go_wp2_with (first
              | (go_at_call 107; refine (place_any _ _).mono ?_; rintro e w1 ⟨rfl, rfl⟩)
              | (go_at_call 108; refine (number_any _ _).mono ?_; rintro e w1 ⟨rfl, rfl⟩))
            go_ret
            exact ⟨ret_bool E.out, (Fr.refl _ _).alloc _⟩
        · have E := Lib.hid (show false = rightB y by rw [HE.out]; simp [h4])
          go_enter Try.func86, Try.ntmps86
          go_wp2_with (first
            | (go_at_call 107; refine (place_any _ _).mono ?_; rintro e w1 ⟨rfl, rfl⟩)
            | (go_at_call 108; refine (number_any _ _).mono ?_; rintro e w1 ⟨rfl, rfl⟩))
          go_ret
          exact ⟨ret_bool E.out, (Fr.refl _ _).alloc _⟩

/-! ### ref.Net in memory -/
abbrev lkV (c : Int × Int) : List Value := [.int .i64 c.1, .int .i64 c.2]
def RefAt (w : World) (r : Nat) (l : List Msg) (K : List (Int × Int)) : Prop :=
  ∃ A c A2 c2, Blk w r 86 [.slice A l.length c, .slice A2 K.length c2] ∧ Sl w 30 8 A l.length (l.flatMap Msg.vals) ∧ l.length ≤ c ∧ Sl w 178 2 A2 K.length (K.flatMap lkV) ∧ K.length ≤ c2
section
variable {w w' : World} {r : Nat} {l : List Msg} {K : List (Int × Int)}
theorem RefAt.fr {S : Nat → Prop} (h : RefAt w r l K) (hf : Fr S w w') (hr : ¬ S r) (hS : ∀ (b : Nat) cur fr, w.heap[b]? = some (Obj.cells cur 30 fr) → ¬ S b)
    (hS2 : ∀ (b : Nat) cur fr, w.heap[b]? = some (Obj.cells cur 178 fr) → ¬ S b) : RefAt w' r l K := by
  obtain ⟨A, c, A2, c2, hB, h1, hc, h2, hc2⟩ := h
  exact ⟨A, c, A2, c2, hB.fr hf hr, h1.fr hf hS, hc, h2.fr hf hS2, hc2⟩
theorem RefAt.fr0 (h : RefAt w r l K) (hf : Fr No w w') : RefAt w' r l K := h.fr hf (fun h => h) (fun _ _ _ _ h => h) fun _ _ _ _ h => h
theorem RefAt.lt (h : RefAt w r l K) : r < w.heap.size := by obtain ⟨A, c, A2, c2, hB, _⟩ := h; exact hB.lt
end
theorem link_cells {w : World} {t : TypeId} {A : Option Addr} {n : Nat} {K : List (Int × Int)} (h : Sl w t 2 A n (K.flatMap lkV)) {k : Nat} {x : Int × Int} (hx : K[k]? = some x) :
    ∃ b o, A = some ⟨b, o, none⟩ ∧ b < w.heap.size ∧ w.cell? ⟨b, o + k * 2, none⟩ = some (.int .i64 x.1) ∧ w.cell? ⟨b, o + k * 2 + 1, none⟩ = some (.int .i64 x.2) := by
  have key : ∀ (K : List (Int × Int)) (k : Nat), K[k]? = some x → ∀ j, j < 2 → (K.flatMap lkV)[k * 2 + j]? = (lkV x)[j]? := by
    intro K
    induction K with
    | nil => intro k hx; simp at hx
    | cons m l ih =>
      intro k hx j hj
      cases k with
      | zero =>
        simp only [List.getElem?_cons_zero, Option.some.injEq] at hx
        subst hx
        simp only [List.flatMap_cons, Nat.zero_mul, Nat.zero_add]
        rw [List.getElem?_append_left (by simpa using hj)]
      | succ k =>
        simp only [List.getElem?_cons_succ] at hx
        have e : (k + 1) * 2 + j = (k * 2 + j) + 2 := by omega
        rw [e]
        simp only [List.flatMap_cons]
        rw [List.getElem?_append_right (by simp)]
        simpa using ih k hx j hj
  have hn : 0 < n := by
    rcases Nat.eq_zero_or_pos n with h0 | h0
    · subst h0
      have := key K k hx 0 (by omega)
      rw [h.of_zero] at this
      cases this
    · exact h0
  obtain ⟨b, o, rfl, hb, hc, _⟩ := h.cells hn
  exact ⟨b, o, rfl, hb, hc _ _ (key K k hx 0 (by omega)), by rw [Nat.add_assoc]; exact hc _ _ (key K k hx 1 (by omega))⟩

def hitB (f t : Int) (c : Int × Int) : Bool := (c.1 == f && c.2 == t) || (c.1 == t && c.2 == f)
def refCut (K : List (Int × Int)) (y : Msg) : Bool := K.any (hitB y.frm y.to_)
theorem any_take_succ {K : List (Int × Int)} {k : Nat} {x : Int × Int} (hx : K[k]? = some x) (f : Int × Int → Bool) : (K.take (k + 1)).any f = ((K.take k).any f || f x) := by
  rw [List.take_add_one, hx, List.any_append]
  simp
theorem any_of_take {K : List (Int × Int)} {k : Nat} {x : Int × Int} (hx : K[k]? = some x) {f : Int × Int → Bool} (hf : f x = true) : K.any f = true :=
  List.any_eq_true.2 ⟨x, List.mem_of_getElem? hx, hf⟩
end Go.Proofs.Ytegogggemmcgdaa
