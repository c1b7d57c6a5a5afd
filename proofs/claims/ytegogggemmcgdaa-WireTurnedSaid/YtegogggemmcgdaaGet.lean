/- wire.get; the reference's get. -/
import Derived.Test.YtegogggemmcgdaaBuf
namespace Go.Proofs.Ytegogggemmcgdaa
open Go Go.RowKit Go.Proofs

theorem or_byte (x b : Nat) (hx : x < 72057594037927936) (hb : b < 256) : bits .or .u64 ((x : Int) * 256) (b : Int) = ((b + 256 * x : Nat) : Int) := by
  rw [bits_join .u64 64 (by decide) (fun n h h' => by simp [IntKind.wrap, IntKind.signed, IntKind.bits]; omega) 8 _ _ (by omega) (by omega) (by omega) (by omega) (by omega) (by omega)]
  omega
def GetRel (w0 : World) (l : Bs) (g : Nat) (v2 v3 : Value) (wr : World) : Prop :=
  ∃ (x : Nat) (y : Int), g ≤ l.length ∧ v3 = .int .i64 y ∧ y = (g : Int) - 1 ∧ v2 = .int .u64 x ∧ x = leN (l.drop g) ∧ wr = w0
set_option maxRecDepth 100000 in
set_option maxHeartbeats 1000000 in
theorem get_any (A : Option Addr) (c : Nat) (e : TypeId) (l : Bs) (w : World) (h : Sl w e 1 A l.length (enc8 l)) (hl : l.length ≤ 8) :
    Calls Try.prog 89 #[.slice A l.length c] w fun e w' => e = .returned (.int .u64 (leN l)) ∧ w' = w := by
  have H := Lib.hid h
  have hl0 : (0 : Int) ≤ (l.length : Int) := by omega
  clear h
  go_enter Try.func89, Try.ntmps89
  go_wp2
  go_loopg [2, 3] l.length (fun g v2 v3 wr => GetRel w l g v2 v3 wr)
  case atStart => exact ⟨0, _, Nat.le_refl _, rfl, by go_num, rfl, by simp [leN], rfl⟩
  case round =>
    obtain ⟨x, y, hg, rfl, hy, rfl, hx, rfl⟩ := hrel
    have HX := Lib.hid hx
    clear hx
    rcases Nat.eq_zero_or_pos gk with h0 | h0
    · subst h0
      have hy0 : y < 0 := by omega
      clear hy
      go_wp2
      go_ret
      have hxx := HX.out
      exact ⟨by rw [hxx]; rfl, rfl⟩
    · obtain ⟨k, rfl⟩ : ∃ k, gk = k + 1 := ⟨gk - 1, by omega⟩
      obtain ⟨hyk⟩ : y = (k : Int) ∧ True := ⟨by omega, trivial⟩
      clear hy
      subst hyk
      have hk0 : (0 : Int) ≤ (k : Int) := by omega
      have hk1 : (k : Int) < (l.length : Int) := by omega
      obtain ⟨b, hb⟩ : ∃ b, l[k]? = some b := ⟨_, List.getElem?_eq_getElem (by omega)⟩
      obtain ⟨g, o, rfl, hg1, hc, _⟩ := H.out.cells (by omega)
      have n0 := hc k _ (enc8_get hb)
      clear hc
      have hx0 : (0 : Int) ≤ (x : Int) := by omega
      have hx1 : (x : Int) < 72057594037927936 := by
        have h1 := leN_lt (l.drop (k + 1))
        have h2 : (l.drop (k + 1)).length ≤ 7 := by rw [List.length_drop]; omega
        have h3 := Nat.pow_le_pow_right (show 0 < 256 by omega) h2
        rw [← HX.out] at h1
        omega
      have hb0 : (0 : Int) ≤ (b.toNat : Int) := by omega
      have hb1 : (b.toNat : Int) < 256 := by have := b.toNat_lt; omega
      have HD := Lib.hid (leN_drop hb)
      obtain ⟨bn, hbn⟩ : ∃ bn, bn = b.toNat := ⟨_, rfl⟩
      rw [← hbn] at n0 hb0 hb1 HD
      clear hbn hb
      go_wp2
      go_roundg k
      case measure => omega
      case rel => exact ⟨bn + 256 * x, (k : Int) - 1, by omega, by go_num, rfl, by rw [or_byte x bn (by omega) (by omega)], by rw [HD.out, ← HX.out], rfl⟩
set_option maxRecDepth 100000 in
set_option maxHeartbeats 1000000 in
theorem refGet_any (A : Option Addr) (c : Nat) (e : TypeId) (l : Bs) (w : World) (h : Sl w e 1 A l.length (enc8 l)) (hl : l.length ≤ 8) :
    Calls Try.prog 90 #[.slice A l.length c] w fun e w' => e = .returned (.int .u64 (leN l)) ∧ w' = w := by
  have H := Lib.hid h
  have hl0 : (0 : Int) ≤ (l.length : Int) := by omega
  clear h
  go_enter Try.func90, Try.ntmps90
  go_wp2
  go_loopg [3, 4] l.length (fun g v3 v4 wr => GetRel w l g v3 v4 wr)
  case atStart => exact ⟨0, _, Nat.le_refl _, rfl, by go_num, rfl, by simp [leN], rfl⟩
  case round =>
    obtain ⟨x, y, hg, rfl, hy, rfl, hx, rfl⟩ := hrel
    have HX := Lib.hid hx
    clear hx
    rcases Nat.eq_zero_or_pos gk with h0 | h0
    · subst h0
      have hy0 : y < 0 := by omega
      clear hy
      go_wp2
      go_ret
      have hxx := HX.out
      exact ⟨by rw [hxx]; rfl, rfl⟩
    · obtain ⟨k, rfl⟩ : ∃ k, gk = k + 1 := ⟨gk - 1, by omega⟩
      obtain ⟨hyk⟩ : y = (k : Int) ∧ True := ⟨by omega, trivial⟩
      clear hy
      subst hyk
      have hk0 : (0 : Int) ≤ (k : Int) := by omega
      have hk1 : (k : Int) < (l.length : Int) := by omega
      obtain ⟨b, hb⟩ : ∃ b, l[k]? = some b := ⟨_, List.getElem?_eq_getElem (by omega)⟩
      obtain ⟨g, o, rfl, hg1, hc, _⟩ := H.out.cells (by omega)
      have n0 := hc k _ (enc8_get hb)
      clear hc
      have hx0 : (0 : Int) ≤ (x : Int) := by omega
      have hx1 : (x : Int) < 72057594037927936 := by
        have h1 := leN_lt (l.drop (k + 1))
        have h2 : (l.drop (k + 1)).length ≤ 7 := by rw [List.length_drop]; omega
        have h3 := Nat.pow_le_pow_right (show 0 < 256 by omega) h2
        rw [← HX.out] at h1
        omega
      have hb0 : (0 : Int) ≤ (b.toNat : Int) := by omega
      have hb1 : (b.toNat : Int) < 256 := by have := b.toNat_lt; omega
      have HD := Lib.hid (leN_drop hb)
      obtain ⟨bn, hbn⟩ : ∃ bn, bn = b.toNat := ⟨_, rfl⟩
      rw [← hbn] at n0 hb0 hb1 HD
      clear hbn hb
      go_wp2
      go_roundg k
      case measure => omega
      case rel => exact ⟨bn + 256 * x, (k : Int) - 1, by omega, by go_num, rfl, by rw [or_byte x bn (by omega) (by omega)], by rw [HD.out, ← HX.out], rfl⟩
end Go.Proofs.Ytegogggemmcgdaa
