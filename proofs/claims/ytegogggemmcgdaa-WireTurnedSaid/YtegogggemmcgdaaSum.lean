/- the sum of bytes: log.Sum; the reference's. -/
import Derived.Test.YtegogggemmcgdaaBuf
import Derived.Laws.BitsAllLaws
namespace Go.Proofs.Ytegogggemmcgdaa
open Go Go.RowKit Go.Proofs

theorem and1_u32 (y : Nat) (h : y < 4294967296) : bits .and .u32 (y : Int) 1 = ((y % 2 : Nat) : Int) := by
  have := bits_mask .u32 32 (by decide) (fun n h h' => by simp [IntKind.wrap, IntKind.signed, IntKind.bits]; omega) 1 (by omega) (y : Int) (by omega) (by omega)
  have e : (2 : Int) ^ 1 - 1 = 1 := by decide
  rw [e] at this
  rw [this]
  omega
theorem odd_bits (y : Nat) (h : y < 4294967296) (h1 : y % 2 = 1) : bits .xor .u32 ((y : Int) / 2) 3988292384 = ((crc1 y : Nat) : Int) := by
  rw [crc1_odd h1]
  exact u32_xor_nat (y / 2) 3988292384 (by omega) (by omega)
theorem not_bits (y : Nat) (h : y < 4294967296) : bits .xor .u32 (y : Int) 4294967295 = ((4294967295 - y : Nat) : Int) := by
  have h1 := u32_xor_nat y 4294967295 h (by omega)
  have h2 : y ^^^ 4294967295 = 4294967295 - y := by
    apply Nat.eq_of_testBit_eq
    intro i
    have e1 : (4294967295 : Nat) = 2 ^ 32 - 1 := by decide
    have e2 : 4294967295 - y = 2 ^ 32 - (y + 1) := by omega
    rw [e2, Nat.testBit_two_pow_sub_succ (by omega), Nat.testBit_xor, e1, Nat.testBit_two_pow_sub_one]
    by_cases hi : i < 32
    · simp [hi]
    · have : y.testBit i = false := Nat.testBit_lt_two_pow (Nat.lt_of_lt_of_le (show y < 2 ^ 32 by omega) (Nat.pow_le_pow_right (by omega) (by omega)))
      simp [hi, this]
  rw [h2] at h1
  exact h1
def SumRel (w0 : World) (l : Bs) (g : Nat) (v3 v4 : Value) (wr : World) : Prop :=
  ∃ (i s : Nat), i + g = l.length ∧ v4 = .int .i64 i ∧ v3 = .int .u32 s ∧ s = crcL 4294967295 (l.take i) ∧ wr = w0
def SumRel2 (w0 : World) (s : Nat) (g : Nat) (v3 v5 : Value) (wr : World) : Prop :=
  ∃ (j y : Nat), j + g = 8 ∧ v5 = .int .i64 j ∧ v3 = .int .u32 y ∧ y = crcI s j ∧ wr = w0
set_option maxRecDepth 100000 in
set_option maxHeartbeats 1000000 in
theorem refSum_any (A : Option Addr) (c : Nat) (e : TypeId) (l : Bs) (w : World) (h : Sl w e 1 A l.length (enc8 l)) (hm : l.length ≤ maxLen) :
    Calls Try.prog 88 #[.slice A l.length c] w fun e w' => e = .returned (.int .u32 (crc l)) ∧ w' = w := by
  have H := Lib.hid h
  have hl0 : (0 : Int) ≤ (l.length : Int) := by omega
  have hl2 : (l.length : Int) ≤ 9223372036854775807 := by simp only [maxLen] at hm; omega
  clear h hm
  go_enter Try.func88, Try.ntmps88
  go_wp2
  go_loopg [3, 4] l.length (fun g v3 v4 wr => SumRel w l g v3 v4 wr)
  case atStart => exact ⟨0, 4294967295, by omega, rfl, rfl, (crcL_nil _).symm, rfl⟩
  case round =>
    obtain ⟨i, s, hg, rfl, rfl, hs, rfl⟩ := hrel
    have HS := Lib.hid hs
    have hs1 : s < 4294967296 := by rw [hs]; exact crcL_lt _ (by omega)
    have hs0 : (0 : Int) ≤ (s : Int) := by omega
    have hi0 : (0 : Int) ≤ (i : Int) := by omega
    clear hs
    by_cases hlt : i < l.length
    · have hi1 : (i : Int) < (l.length : Int) := by omega
      obtain ⟨b, hb⟩ : ∃ b, l[i]? = some b := ⟨_, List.getElem?_eq_getElem hlt⟩
      obtain ⟨g, o, rfl, hg1, hc, _⟩ := H.out.cells (by omega)
      have n0 := hc i _ (enc8_get hb)
      clear hc
      have HT := Lib.hid (crcL_take 4294967295 hb)
      rw [← HS.out] at HT
      have hbn : b.toNat < 256 := b.toNat_lt
      obtain ⟨bn, hbn2⟩ : ∃ bn, bn = b.toNat := ⟨_, rfl⟩
      rw [← hbn2] at n0 HT hbn
      clear hbn2 hb HS
      have hb0 : (0 : Int) ≤ (bn : Int) := by omega
      have hx := u32_xor_nat s bn hs1 (by omega)
      have hx1 := xor_lt hs1 (show bn < 4294967296 by omega)
      have HB := Lib.hid (crcB_eq s bn)
      generalize s ^^^ bn = y0 at hx hx1 HB
      go_wp2
      clear hx n0
      go_loopg [3, 5] 8 (fun g v3 v5 wq => SumRel2 wr y0 g v3 v5 wq)
      case atStart => exact ⟨0, y0, by omega, rfl, rfl, (crcI_zero _).symm, rfl⟩
      case round =>
        obtain ⟨j, y, hgj, rfl, rfl, hy, rfl⟩ := hrel
        have HY := Lib.hid hy
        have hy1 : y < 4294967296 := by rw [hy]; exact crcI_lt hx1 _
        have hy0 : (0 : Int) ≤ (y : Int) := by omega
        have hj0 : (0 : Int) ≤ (j : Int) := by omega
        clear hy
        by_cases hjl : j < 8
        · have hj1 : (j : Int) < 8 := by omega
          have ha := and1_u32 y hy1
          rcases Nat.mod_two_eq_zero_or_one y with hm | hm
          · rw [hm] at ha
            have HC := Lib.hid (crc1_ev hm)
            clear hm
            go_wp2
            go_roundg (8 - (j + 1))
            case measure => omega
            case rel => exact ⟨j + 1, y / 2, by omega, by go_num, rfl, by rw [crcI_succ, ← HY.out, HC.out], rfl⟩
          · rw [hm] at ha
            have hxr := odd_bits y hy1 hm
            clear hm
            obtain ⟨z, hz⟩ : ∃ z, z = crc1 y := ⟨_, rfl⟩
            rw [← hz] at hxr
            have HZ := Lib.hid hz
            clear hz
            go_wp2
            go_roundg (8 - (j + 1))
            case measure => omega
            case rel => exact ⟨j + 1, z, by omega, by go_num, rfl, by rw [crcI_succ, ← HY.out, HZ.out], rfl⟩
        · have hj1 : (8 : Int) ≤ (j : Int) := by omega
          obtain rfl : j = 8 := by omega
          go_wp2
          go_roundg (l.length - (i + 1))
          case measure => omega
          case rel => exact ⟨i + 1, y, by omega, by go_num, rfl, by rw [HT.out, HB.out, HY.out], rfl⟩
    · have hi1 : (l.length : Int) ≤ (i : Int) := by omega
      obtain rfl : i = l.length := by omega
      have hc := crcL_lt l (s := 4294967295) (by omega)
      have HX := Lib.hid (HS.out.trans (by rw [List.take_length]))
      have hxr := not_bits s hs1
      obtain ⟨z, hz⟩ : ∃ z, z = 4294967295 - s := ⟨_, rfl⟩
      rw [← hz] at hxr
      have HZ := Lib.hid hz
      clear hz hc
      go_wp2
      go_ret
      exact ⟨by rw [crc_def, ← HX.out, ← HZ.out]; rfl, rfl⟩
end Go.Proofs.Ytegogggemmcgdaa
