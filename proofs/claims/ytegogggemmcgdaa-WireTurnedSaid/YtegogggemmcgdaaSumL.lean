/- log.Sum. -/
import Derived.Test.YtegogggemmcgdaaSum
namespace Go.Proofs.Ytegogggemmcgdaa
open Go Go.RowKit Go.Proofs

def tab (i : Nat) : List Value := (List.range 16).map fun k => .int .u32 (if k < i then ((crc4 k : Nat) : Int) else 0)
theorem tab_get {i k : Nat} (hk : k < 16) : (tab i)[k]? = some (.int .u32 (if k < i then ((crc4 k : Nat) : Int) else 0)) := by
  rw [tab, List.getElem?_map, List.getElem?_range hk]
  rfl
theorem tab_set (i : Nat) (hi : i < 16) : tab (i + 1) = (tab i).set i (.int .u32 ((crc4 i : Nat) : Int)) := by
  apply List.ext_getElem?
  intro k
  by_cases hk : k < 16
  · rw [tab_get hk, List.getElem?_set]
    by_cases e : i = k
    · subst e
      have hl : i < (tab i).length := by simp [tab, hk]
      simp [hl]
    · rw [if_neg e, tab_get hk]
      by_cases h : k < i
      · rw [if_pos (by omega), if_pos h]
      · rw [if_neg (by omega), if_neg h]
  · rw [List.getElem?_eq_none (by simp [tab]; omega), List.getElem?_eq_none (by simp [tab]; omega)]
theorem crc4_iter (s : Nat) : crc4 s = crcI s 4 := by rw [crc4_eq, crcI_succ, crcI_succ, crcI_succ, crcI_succ, crcI_zero]
theorem xor0_u32 (y : Nat) (h : y < 4294967296) : bits .xor .u32 ((y : Int) / 2) 0 = ((y / 2 : Nat) : Int) := by
  have := u32_xor_nat (y / 2) 0 (by omega) (by omega)
  simpa using this
def TabRel (w0 : World) (G : Nat) (g : Nat) (v9 : Value) (wr : World) : Prop :=
  ∃ i : Nat, i + g = 16 ∧ v9 = .int .i64 i ∧ Blk wr G 180 (tab i) ∧ Fr No w0 wr
theorem and15_u32 (y : Nat) (h : y < 4294967296) : bits .and .u32 (y : Int) 15 = ((y % 16 : Nat) : Int) := by
  have := bits_mask .u32 32 (by decide) (fun n h h' => by simp [IntKind.wrap, IntKind.signed, IntKind.bits]; omega) 4 (by omega) (y : Int) (by omega) (by omega)
  have e : (2 : Int) ^ 4 - 1 = 15 := by decide
  rw [e] at this
  rw [this]
  omega
theorem half_bits (y : Nat) (h : y < 4294967296) : bits .xor .u32 ((y : Int) / 16) ((crc4 (y % 16) : Nat) : Int) = ((crc4 y : Nat) : Int) := by
  have h1 := u32_xor_nat (y / 16) (crc4 (y % 16)) (by omega) (crc4_lt (by omega))
  rw [← crc4_half] at h1
  exact h1
theorem not_bits2 (y : Nat) (h : y < 4294967296) : bits .xor .u32 IntKind.u32.max (y : Int) = ((4294967295 - y : Nat) : Int) := by
  have h1 := u32_xor_nat 4294967295 y (by omega) h
  have h2 := u32_xor_nat y 4294967295 h (by omega)
  rw [Nat.xor_comm, ← h2] at h1
  exact h1.trans (not_bits y h)
/-- what half a byte's step reads and makes -/
theorem half_step {w : World} {G : Nat} (hB : Blk w G 180 (tab 16)) (y : Nat) (h : y < 4294967296) :
    ∃ m hf z : Nat, bits .and .u32 (y : Int) 15 = (m : Int) ∧ m < 16 ∧ w.cell? ⟨G, m, none⟩ = some (.int .u32 (hf : Int)) ∧ bits .xor .u32 ((y : Int) / 16) (hf : Int) = (z : Int) ∧ z < 4294967296 ∧ Hid (z = crc4 y) := by
  refine ⟨y % 16, crc4 (y % 16), crc4 y, and15_u32 y h, by omega, ?_, half_bits y h, crc4_lt h, Lib.hid rfl⟩
  rw [hB.cell, tab_get (by omega), if_pos (by omega)]
def SumLRel (w0 : World) (l : Bs) (g : Nat) (v6 v29 : Value) (wr : World) : Prop :=
  ∃ (i s : Nat), i + g = l.length ∧ v29 = .int .i64 i ∧ v6 = .int .u32 s ∧ s = crcL 4294967295 (l.take i) ∧ wr = w0
def HalfRel (w0 : World) (s : Nat) (g : Nat) (v5 v14 : Value) (wr : World) : Prop :=
  ∃ (j y : Nat), j + g = 4 ∧ v14 = .int .i64 j ∧ v5 = .int .u32 y ∧ y = crcI s j ∧ wr = w0
set_option maxRecDepth 100000 in
set_option maxHeartbeats 2000000 in
theorem sum_any (A : Option Addr) (c : Nat) (e : TypeId) (l : Bs) (w : World) (h : Sl w e 1 A l.length (enc8 l)) (hm : l.length ≤ maxLen) :
    Calls Try.prog 85 #[.slice A l.length c] w fun e w' => e = .returned (.int .u32 (crc l)) ∧ Fr No w w' := by
  have H := Lib.hid h
  have hl0 : (0 : Int) ≤ (l.length : Int) := by omega
  have hl2 : (l.length : Int) ≤ 9223372036854775807 := by simp only [maxLen] at hm; omega
  clear h hm
  go_enter Try.func85, Try.ntmps85
  go_wp2
  have B0 := Blk.new w 180 (tab 0)
  have F0 := (Fr.refl No w).alloc (Obj.cells (tab 0).toArray 180)
  have e0 : (tab 0).toArray = #[.int .u32 0, .int .u32 0, .int .u32 0, .int .u32 0, .int .u32 0, .int .u32 0, .int .u32 0, .int .u32 0, .int .u32 0, .int .u32 0, .int .u32 0, .int .u32 0, .int .u32 0, .int .u32 0, .int .u32 0, .int .u32 0] := by kernel_rfl
  rw [e0] at B0 F0
  have HB0 := Lib.hid B0
  have HF0 := Lib.hid F0
  have HG := Lib.hid (Nat.le_refl w.heap.size)
  clear B0 F0 e0
  obtain ⟨G, hG⟩ : ∃ G, G = w.heap.size := ⟨_, rfl⟩
  rw [← hG] at HB0 ⊢
  have HGw := Lib.hid hG
  clear hG
  go_loopg [9] 16 (fun g v9 wr => TabRel w G g v9 wr)
  case atStart => exact ⟨0, by omega, rfl, HB0.out, HF0.out⟩
  case round =>
    clear HB0 HF0
    obtain ⟨i, hg, rfl, hB, hF⟩ := hrel
    have HB := Lib.hid hB
    have HF := Lib.hid hF
    have hi0 : (0 : Int) ≤ (i : Int) := by omega
    clear hB hF
    by_cases hi : i < 16
    · have hi1 : (i : Int) < 16 := by omega
      go_wp2
      go_loopg [5, 14] 4 (fun g v5 v14 wq => HalfRel wr i g v5 v14 wq)
      case atStart => exact ⟨0, i, by omega, rfl, by go_num, (crcI_zero _).symm, rfl⟩
      case round =>
        obtain ⟨j, y, hgj, rfl, rfl, hy, rfl⟩ := hrel
        have HY := Lib.hid hy
        have hy1 : y < 4294967296 := by rw [hy]; exact crcI_lt (by omega) _
        have hy0 : (0 : Int) ≤ (y : Int) := by omega
        have hj0 : (0 : Int) ≤ (j : Int) := by omega
        clear hy
        by_cases hjl : j < 4
        · have hj1 : (j : Int) < 4 := by omega
          have ha := and1_u32 y hy1
          rcases Nat.mod_two_eq_zero_or_one y with hm | hm
          · rw [hm] at ha
            have HC := Lib.hid (crc1_ev hm)
            have hx0 := xor0_u32 y hy1
            clear hm
            go_wp2
            go_roundg (4 - (j + 1))
            case measure => omega
            case rel => exact ⟨j + 1, y / 2, by omega, by go_num, by first | rfl | go_num, by rw [crcI_succ, ← HY.out, HC.out], rfl⟩
          · rw [hm] at ha
            have hxr := odd_bits y hy1 hm
            clear hm
            obtain ⟨z, hz⟩ : ∃ z, z = crc1 y := ⟨_, rfl⟩
            rw [← hz] at hxr
            have HZ := Lib.hid hz
            clear hz
            go_wp2
            go_roundg (4 - (j + 1))
            case measure => omega
            case rel => exact ⟨j + 1, z, by omega, by go_num, rfl, by rw [crcI_succ, ← HY.out, HZ.out], rfl⟩
        · have hj1 : (4 : Int) ≤ (j : Int) := by omega
          obtain rfl : j = 4 := by omega
          have n0 := HB.out.cell i
          have n1 := HB.out.frozen i
          have n2 := HB.out.lt
          rw [tab_get hi] at n0
          go_wp2
          go_roundg (16 - (i + 1))
          case measure => omega
          case rel =>
            refine ⟨i + 1, by omega, by go_num, ?_, ?_⟩
            · have hb := HB.out.set_ i (.int .u32 ((y : Nat) : Int))
              rw [HY.out, ← crc4_iter, ← tab_set i hi] at hb
              rw [HY.out, ← crc4_iter]
              exact hb
            · exact HF.out.setCell (p := ⟨G, i, none⟩) (.inr (Nat.le_of_eq HGw.out.symm)) _
    · have hi1 : (16 : Int) ≤ (i : Int) := by omega
      obtain rfl : i = 16 := by omega
      have lG := HB.out.lt
      go_wp2
      go_loopg [6, 29] l.length (fun g v6 v29 wq => SumLRel wr l g v6 v29 wq)
      case atStart => exact ⟨0, 4294967295, by omega, rfl, rfl, (crcL_nil _).symm, rfl⟩
      case round =>
        obtain ⟨i, s, hgi, rfl, rfl, hs, rfl⟩ := hrel
        have HS := Lib.hid hs
        have hs1 : s < 4294967296 := by rw [hs]; exact crcL_lt _ (by omega)
        have hs0 : (0 : Int) ≤ (s : Int) := by omega
        have hi0 : (0 : Int) ≤ (i : Int) := by omega
        clear hs
        by_cases hlt : i < l.length
        · have hi1 : (i : Int) < (l.length : Int) := by omega
          obtain ⟨b, hb⟩ : ∃ b, l[i]? = some b := ⟨_, List.getElem?_eq_getElem hlt⟩
          obtain ⟨g, o, rfl, hg1, hc, _⟩ := (H.out.fr0 HF.out).cells (by omega)
          have n0 := hc i _ (enc8_get hb)
          clear hc
          have HT := Lib.hid (crcL_take 4294967295 hb)
          rw [← HS.out] at HT
          have hbn : b.toNat < 256 := b.toNat_lt
          obtain ⟨bn, hbn2⟩ : ∃ bn, bn = b.toNat := ⟨_, rfl⟩
          rw [← hbn2] at n0 HT hbn
          clear hbn2 hb HS
          have hb0 : (0 : Int) ≤ (bn : Int) := by omega
          have hx := u32_xor_nat s bn hs1 (by omega)
          have hx1 := xor_lt hs1 (show bn < 4294967296 by omega)
          have HB2 := Lib.hid (crcB_two s bn)
          generalize s ^^^ bn = y0 at hx hx1 HB2
          have hy0 : (0 : Int) ≤ (y0 : Int) := by omega
          obtain ⟨m1, f1, z1, ha1, hm1, hn1, hz1, hl1, HZ1⟩ := half_step HB.out y0 hx1
          have hz10 : (0 : Int) ≤ (z1 : Int) := by omega
          obtain ⟨m2, f2, z2, ha2, hm2, hn2, hz2, hl2', HZ2⟩ := half_step HB.out z1 hl1
          have hm10 : (0 : Int) ≤ (m1 : Int) := by omega
          have hm11 : (m1 : Int) < 16 := by omega
          have hm20 : (0 : Int) ≤ (m2 : Int) := by omega
          have hm21 : (m2 : Int) < 16 := by omega
          go_wp2
          go_roundg (l.length - (i + 1))
          case measure => omega
          case rel => exact ⟨i + 1, z2, by omega, by go_num, rfl, by rw [HT.out, HB2.out, HZ2.out, HZ1.out], rfl⟩
        · have hi1 : (l.length : Int) ≤ (i : Int) := by omega
          obtain rfl : i = l.length := by omega
          have HX := Lib.hid (HS.out.trans (by rw [List.take_length]))
          have hnb := not_bits2 s hs1
          obtain ⟨z, hz⟩ : ∃ z, z = 4294967295 - s := ⟨_, rfl⟩
          rw [← hz] at hnb
          have HZ := Lib.hid hz
          clear hz
          go_wp2
          go_ret
          refine ⟨?_, HF.out⟩
          rw [crc_def, ← HX.out, ← HZ.out, ← hnb]
          rfl
end Go.Proofs.Ytegogggemmcgdaa
