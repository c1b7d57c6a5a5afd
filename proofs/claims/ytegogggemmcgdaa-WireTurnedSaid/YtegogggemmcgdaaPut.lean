/- wire.put, get; the reference's put, get. -/
import Derived.Test.YtegogggemmcgdaaBuf
namespace Go.Proofs.Ytegogggemmcgdaa
open Go Go.RowKit Go.Proofs

def PutRel (w0 : World) (base : Nat) (l : Bs) (n k : Nat) (g : Nat) (v0 v1 v8 : Value) (wr : World) : Prop :=
  ∃ (i x : Nat) (v : Value), i + g = k ∧ v8 = .int .i64 i ∧ x = n / 256 ^ i ∧ v1 = .int .u64 x ∧ v = v0 ∧ Buf wr base v (l ++ leB n i) ∧ Fr (U8 base w0) w0 wr
set_option maxRecDepth 100000 in
set_option maxHeartbeats 1000000 in
theorem put_any (base : Nat) (v : Value) (l : Bs) (n k : Nat) (w : World) (h : Buf w base v l) (hb : base ≤ w.heap.size) (hn : n < 18446744073709551616) (hk : k ≤ 8) (hl : l.length ≤ 150000000000000) :
    Calls Try.prog 84 #[v, .int .u64 n, .int .i64 k] w fun e w' => ∃ v', e = .returned v' ∧ Buf w' base v' (l ++ leB n k) ∧ Fr (U8 base w) w w' := by
  have H := Lib.hid h
  clear h
  have hk0 : (0 : Int) ≤ (k : Int) := by omega
  go_enter Try.func84, Try.ntmps84
  go_wp2
  go_loopg [0, 1, 8] k (fun g v0 v1 v8 wr => PutRel w base l n k g v0 v1 v8 wr)
  case atStart => exact ⟨0, n, v, by omega, rfl, by simp, rfl, rfl, by simpa [leB] using H.out, Fr.refl _ _⟩
  case round =>
    clear H
    obtain ⟨i, x, u, hg, rfl, hx, rfl, rfl, ho, hf⟩ := hrel
    have HO := Lib.hid ho
    have HF := Lib.hid hf
    have HX := Lib.hid hx
    have hx0 : (0 : Int) ≤ (x : Int) := by omega
    have hx1 : (x : Int) < 18446744073709551616 := by have := Nat.div_le_self n (256 ^ i); omega
    have hi0 : (0 : Int) ≤ (i : Int) := by omega
    clear ho hf hx
    by_cases hik : i < k
    · have hi1 : (i : Int) < (k : Int) := by omega
      have hll : (l ++ leB n i).length + 1 ≤ 200000000000000 := by rw [List.length_append, leB_length]; omega
      go_wp2_with (at_builtin; go_loud (refine wpList_buf_append (by rfl) (.tmp 10) (.tmp 13) (by rfl) base u (l ++ leB n i) (by rfl) (own_fr0 HO.out ((Fr.refl No wr).alloc (Obj.cells #[.int .u8 ((x : Int) % 256)] 5))) _ 1 1 _ [UInt8.ofNat x] (by rfl) (sl_byte wr x) hll (by have := HF.out.size; simp only [World.size_alloc]; omega) ?_); intro v2 w2 ho2 hg2)
      go_roundg (k - (i + 1))
      case measure => omega
      case rel =>
        refine ⟨i + 1, x / 256, v2, by omega, by go_num, ?_, by go_num, rfl, ?_, U8.grown (HF.out.alloc _) (own_fr0 HO.out ((Fr.refl No wr).alloc _)) hg2⟩
        · rw [HX.out, Nat.div_div_eq_div_mul, Nat.pow_succ]
        · rw [leB_succ, ← HX.out, ← List.append_assoc]
          exact ho2
    · have hi1 : (k : Int) ≤ (i : Int) := by omega
      obtain rfl : i = k := by omega
      go_wp2
      go_ret
      exact ⟨_, rfl, HO.out, HF.out⟩
theorem shr_byte (n i : Nat) : (n : Int) / 2 ^ (8 * i) = ((n / 256 ^ i : Nat) : Int) := by
  have e : ((2 ^ (8 * i) : Nat) : Int) = (2 : Int) ^ (8 * i) := Int.natCast_pow 2 (8 * i)
  rw [← e, Nat.pow_mul]
  rfl
def RPutRel (w0 : World) (base : Nat) (l : Bs) (n k : Nat) (g : Nat) (v0 v7 : Value) (wr : World) : Prop :=
  ∃ (i : Nat) (v : Value), i + g = k ∧ v7 = .int .i64 i ∧ v = v0 ∧ Buf wr base v (l ++ leB n i) ∧ Fr (U8 base w0) w0 wr
set_option maxRecDepth 100000 in
set_option maxHeartbeats 1000000 in
theorem refPut_any (base : Nat) (v : Value) (l : Bs) (n k : Nat) (w : World) (h : Buf w base v l) (hb : base ≤ w.heap.size) (hn : n < 18446744073709551616) (hk : k ≤ 8) (hl : l.length ≤ 150000000000000) :
    Calls Try.prog 87 #[v, .int .u64 n, .int .i64 k] w fun e w' => ∃ v', e = .returned v' ∧ Buf w' base v' (l ++ leB n k) ∧ Fr (U8 base w) w w' := by
  have H := Lib.hid h
  clear h
  have hk0 : (0 : Int) ≤ (k : Int) := by omega
  go_enter Try.func87, Try.ntmps87
  go_wp2
  go_loopg [0, 7] k (fun g v0 v7 wr => RPutRel w base l n k g v0 v7 wr)
  case atStart => exact ⟨0, v, by omega, rfl, rfl, by simpa [leB] using H.out, Fr.refl _ _⟩
  case round =>
    clear H
    obtain ⟨i, u, hg, rfl, rfl, ho, hf⟩ := hrel
    obtain ⟨x, hx⟩ : ∃ x, x = n / 256 ^ i := ⟨_, rfl⟩
    have HO := Lib.hid ho
    have HF := Lib.hid hf
    have HX := Lib.hid hx
    have hx0 : (0 : Int) ≤ (x : Int) := by omega
    have hx1 : (x : Int) < 18446744073709551616 := by have := Nat.div_le_self n (256 ^ i); omega
    have hi0 : (0 : Int) ≤ (i : Int) := by omega
    clear ho hf hx
    by_cases hik : i < k
    · have hi1 : (i : Int) < (k : Int) := by omega
      have hll : (l ++ leB n i).length + 1 ≤ 200000000000000 := by rw [List.length_append, leB_length]; omega
      have hsh := shr_byte n i
      rw [← HX.out] at hsh
      go_wp2_with (at_builtin; go_loud (refine wpList_buf_append (by rfl) (.tmp 13) (.tmp 20) (by rfl) base u (l ++ leB n i) (by rfl) (own_fr0 HO.out ((Fr.refl No wr).alloc (Obj.cells #[.int .u8 ((x : Int) % 256)] 5))) _ 1 1 _ [UInt8.ofNat x] (by rfl) (sl_byte wr x) hll (by have := HF.out.size; simp only [World.size_alloc]; omega) ?_); intro v2 w2 ho2 hg2)
      go_roundg (k - (i + 1))
      case measure => omega
      case rel =>
        refine ⟨i + 1, v2, by omega, by go_num, rfl, ?_, U8.grown (HF.out.alloc _) (own_fr0 HO.out ((Fr.refl No wr).alloc _)) hg2⟩
        rw [leB_succ, ← HX.out, ← List.append_assoc]
        exact ho2
    · have hi1 : (k : Int) ≤ (i : Int) := by omega
      obtain rfl : i = k := by omega
      go_wp2
      go_ret
      exact ⟨_, rfl, HO.out, HF.out⟩
end Go.Proofs.Ytegogggemmcgdaa
