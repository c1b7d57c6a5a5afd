import Derived.Test.YtegogggemmcgdaaCG1
import Derived.Laws.CopyRow
import Derived.Laws.BitsAllLaws
import Derived.ProofKit
import Derived.OpenShut
import Derived.ShutString
import Derived.ChangeOld
import Derived.SizedLaws
import Derived.Deep.Slices
import Derived.Deep.Fields
set_option linter.unusedVariables false
set_option linter.unusedSimpArgs false
/- wire.Put: a message as bytes. -/
namespace Go.Proofs.Ytegogggemmcgdaa
open Go Go.RowKit Go.Proofs

def u64N (x : Int) : Nat := (x % 18446744073709551616).toNat
def u8B (x : Int) : UInt8 := UInt8.ofNat (x % 256).toNat
theorem u8B_toNat (x : Int) : ((u8B x).toNat : Int) = x % 256 := by
  have : (u8B x).toNat = (x % 256).toNat % 256 := UInt8.toNat_ofNat'
  omega
theorem u64N_lt (x : Int) : u64N x < 18446744073709551616 := by unfold u64N; omega
theorem u64N_cast (x : Int) : ((u64N x : Nat) : Int) = x % 18446744073709551616 := by unfold u64N; omega
def headM (m : Msg) : Bs := [167, u8B m.frm, u8B m.to_, u8B m.kind]
def numsM (m : Msg) : List Int := [m.n, m.low, m.mins, m.code]
def numB (l : List Int) : Bs := l.flatMap fun x => leB (u64N x) 8
def textM (m : Msg) : Bs := UInt8.ofNat m.text.size :: m.text.data.toList
/-- all but the sum -/
def frontM (m : Msg) : Bs := headM m ++ numB (numsM m) ++ textM m
def bytesM (m : Msg) : Bs := frontM m ++ leB (crc (frontM m)) 4
theorem numB_length (l : List Int) : (numB l).length = 8 * l.length := by
  induction l with
  | nil => rfl
  | cons x l ih => simp only [numB, List.flatMap_cons, List.length_append, leB_length, List.length_cons] at ih ⊢; omega
theorem frontM_length (m : Msg) : (frontM m).length = 37 + m.text.size := by
  simp only [frontM, List.length_append, numB_length]
  have : m.text.data.toList.length = m.text.size := Array.length_toList
  simp only [headM, numsM, textM, List.length_cons, List.length_nil, this]
  omega
theorem bytesM_length (m : Msg) : (bytesM m).length = 41 + m.text.size := by
  rw [bytesM, List.length_append, frontM_length, leB_length]
  omega
theorem putI_any (base : Nat) (v : Value) (l : Bs) (x : Int) (k : Nat) (w : World) (h : Buf w base v l) (hb : base ≤ w.heap.size) (h0 : 0 ≤ x) (hn : x < 18446744073709551616) (hk : k ≤ 8) (hl : l.length ≤ 150000000000000) :
    Calls Try.prog 84 #[v, .int .u64 x, .int .i64 k] w fun e w' => ∃ v', e = .returned v' ∧ Buf w' base v' (l ++ leB x.toNat k) ∧ Fr (U8 base w) w w' := by
  have e : x = ((x.toNat : Nat) : Int) := by omega
  rw [e]
  exact put_any base v l x.toNat k w h hb (by omega) hk hl
def PMRel (w0 : World) (m : Msg) (G : Nat) (g : Nat) (v4 v29 : Value) (wr : World) : Prop :=
  ∃ (i : Nat) (v : Value), i + g = 4 ∧ v29 = .int .i64 i ∧ v = v4 ∧ Buf wr w0.heap.size v (headM m ++ numB ((numsM m).take i)) ∧ Blk wr G 28 m.vals ∧ Fr No w0 wr
theorem u64N_def (x : Int) : u64N x = (x % 18446744073709551616).toNat := rfl
theorem enc8_head (m : Msg) : enc8 (headM m) = [.int .u8 167, .int .u8 (m.frm % 256), .int .u8 (m.to_ % 256), .int .u8 (m.kind % 256)] := by
  simp only [enc8, headM, List.map_cons, List.map_nil, u8B_toNat]
  rfl
theorem head_buf (m : Msg) (w : World) (base : Nat) (hb : base ≤ w.heap.size) :
    Buf (w.alloc (Obj.cells #[.int .u8 167, .int .u8 (m.frm % 256), .int .u8 (m.to_ % 256), .int .u8 (m.kind % 256)] 5)) base (.slice (some ⟨w.heap.size, 0, none⟩) 4 4) (headM m ++ numB ((numsM m).take 0)) := by
  have h := World.ownsRow_lit (base := base) (e := 5) (size := 1) w #[.int .u8 167, .int .u8 (m.frm % 256), .int .u8 (m.to_ % 256), .int .u8 (m.kind % 256)] 4 hb (by decide) rfl
  have e : headM m ++ numB ((numsM m).take 0) = headM m := by simp [numB]
  rw [e, Buf, enc8_head]
  exact h
theorem nums_at (m : Msg) (i : Nat) (x : Int) (hx : (numsM m)[i]? = some x) (w : World) : (Instr.index 146 (.agg #[.int .i64 m.n, .int .i64 m.low, .int .i64 m.mins, .int .i64 m.code]) (.int .i64 (i : Int))).run Try.prog w = .ok (.int .i64 x) w := by
  have i0 : ∀ (a b c d : Value) (w : World), (Instr.index 146 (.agg #[a, b, c, d]) (.int .i64 0)).run Try.prog w = .ok a w := fun _ _ _ _ _ => by kernel_rfl
  have i1 : ∀ (a b c d : Value) (w : World), (Instr.index 146 (.agg #[a, b, c, d]) (.int .i64 1)).run Try.prog w = .ok b w := fun _ _ _ _ _ => by kernel_rfl
  have i2 : ∀ (a b c d : Value) (w : World), (Instr.index 146 (.agg #[a, b, c, d]) (.int .i64 2)).run Try.prog w = .ok c w := fun _ _ _ _ _ => by kernel_rfl
  have i3 : ∀ (a b c d : Value) (w : World), (Instr.index 146 (.agg #[a, b, c, d]) (.int .i64 3)).run Try.prog w = .ok d w := fun _ _ _ _ _ => by kernel_rfl
  match i, hx with
  | 0, hx => simp only [numsM, List.getElem?_cons_zero, Option.some.injEq] at hx; subst hx; exact i0 _ _ _ _ _
  | 1, hx => simp only [numsM, List.getElem?_cons_zero, List.getElem?_cons_succ, Option.some.injEq] at hx; subst hx; exact i1 _ _ _ _ _
  | 2, hx => simp only [numsM, List.getElem?_cons_zero, List.getElem?_cons_succ, Option.some.injEq] at hx; subst hx; exact i2 _ _ _ _ _
  | 3, hx => simp only [numsM, List.getElem?_cons_zero, List.getElem?_cons_succ, Option.some.injEq] at hx; subst hx; exact i3 _ _ _ _ _
  | k + 4, hx => simp [numsM] at hx
theorem headM_length (m : Msg) : (headM m).length = 4 := rfl
theorem numsM_length (m : Msg) : (numsM m).length = 4 := rfl
theorem numB_take {l : List Int} {i : Nat} {x : Int} (hx : l[i]? = some x) : numB (l.take (i + 1)) = numB (l.take i) ++ leB (u64N x) 8 := by
  rw [List.take_add_one, hx, numB, List.flatMap_append]
  simp [numB]
theorem frontM_eq (m : Msg) : frontM m = headM m ++ numB (numsM m) ++ textM m := rfl
theorem bytesM_eq (m : Msg) : bytesM m = frontM m ++ leB (crc (frontM m)) 4 := rfl
theorem textM_eq (m : Msg) : textM m = UInt8.ofNat m.text.size :: m.text.data.toList := rfl
theorem right_len {m : Msg} (h : rightB m = true) : m.text.size ≤ 20 := by
  simp only [rightB, Bool.and_eq_true, decide_eq_true_eq] at h
  exact h.2.2
theorem numB_nil : numB [] = [] := rfl
theorem frontM_nums (m : Msg) : frontM m = headM m ++ leB (u64N m.n) 8 ++ leB (u64N m.low) 8 ++ leB (u64N m.mins) 8 ++ leB (u64N m.code) 8 ++ textM m := by
  simp [frontM, numsM, numB]
theorem headM_def (m : Msg) : headM m = [167, u8B m.frm, u8B m.to_, u8B m.kind] := rfl
attribute [irreducible] u64N u8B headM numB numsM
set_option maxRecDepth 100000 in
set_option maxHeartbeats 2000000 in
theorem putM_bad (m : Msg) (w : World) (hr : rightB m = false) :
    Calls Try.prog 47 #[m.val] w fun e w' => e = .returned (.tuple #[.slice none 0 0, .int .i64 1]) ∧ Fr No w w' := by
  have HR := Lib.hid hr
  clear hr
  go_enter Try.func47, Try.ntmps47
  go_wp2_with (go_at_call 52; refine (msgRight_any m _).mono ?_; rintro e w1 ⟨rfl, hf1⟩; have F1 := Lib.hid hf1; rw [HR.out]; clear hf1)
  go_ret2
  exact ⟨by rfl, ((Fr.refl No w).alloc _).trans F1.out⟩
set_option maxRecDepth 100000 in
set_option maxHeartbeats 2000000 in
theorem putM_ok (m : Msg) (w : World) (hr : rightB m = true) :
    Calls Try.prog 47 #[m.val] w fun e w' => ∃ A c, e = .returned (.tuple #[.slice A (bytesM m).length c, .int .i64 0]) ∧ Buf w' w.heap.size (.slice A (bytesM m).length c) (bytesM m) ∧ Fr No w w' := by
  have HR := Lib.hid hr
  clear hr
  go_enter Try.func47, Try.ntmps47
  go_wp2_with (go_at_call 52; refine (msgRight_any m _).mono ?_; rintro e w1 ⟨rfl, hf1⟩; have F1 := Lib.hid hf1; have B1 := (Blk.new w 28 m.vals).fr hf1 (fun h => h); obtain ⟨r0, r1, r2, r3, r4, r5, r6, r7⟩ := B1.cells8; have HB1 := Lib.hid B1; have l1 := B1.lt; rw [HR.out]; clear hf1 B1)
  have hsz : w.heap.size + 1 ≤ w1.heap.size := by have := F1.out.size; simpa using this
  have HH := Lib.hid (head_buf m w1 w.heap.size (by omega))
  have HB2 := Lib.hid (HB1.out.alloc (Obj.cells #[.int .u8 167, .int .u8 (m.frm % 256), .int .u8 (m.to_ % 256), .int .u8 (m.kind % 256)] 5))
  have HF2 := Lib.hid ((((Fr.refl No w).alloc _).trans F1.out).alloc (Obj.cells #[.int .u8 167, .int .u8 (m.frm % 256), .int .u8 (m.to_ % 256), .int .u8 (m.kind % 256)] 5))
  clear r0 r1 r2 r3 r4 r5 r6 r7 l1 HB1 F1
  obtain ⟨G, hG⟩ : ∃ G, G = w.heap.size := ⟨_, rfl⟩
  rw [← hG] at HB2
  rw [show (Value.pointer (some ⟨w.heap.size, 0, none⟩)) = Value.pointer (some ⟨G, 0, none⟩) by rw [hG]]
  have HGw := Lib.hid hG
  clear hG
  go_loopg [4, 29] 4 (fun g v4 v29 wr => PMRel w m G g v4 v29 wr)
  case atStart => exact ⟨0, _, by omega, rfl, rfl, HH.out, HB2.out, HF2.out⟩
  case round =>
    clear HH HB2 HF2 hsz
    obtain ⟨i, v, hg, rfl, rfl, ho, hb, hf⟩ := hrel
    have HO := Lib.hid ho
    have HB := Lib.hid hb
    have HF := Lib.hid hf
    have hi0 : (0 : Int) ≤ (i : Int) := by omega
    clear ho hb hf
    by_cases hi : i < 4
    · have hi1 : (i : Int) < 4 := by omega
      obtain ⟨x, hx⟩ : ∃ x, (numsM m)[i]? = some x := ⟨_, List.getElem?_eq_getElem (by rw [numsM_length]; exact hi)⟩
      have hix := nums_at m i x hx
      have HX := Lib.hid (numB_take hx)
      have hlen : (headM m ++ numB ((numsM m).take i)).length ≤ 150000000000000 := by
        rw [List.length_append, numB_length, List.length_take]
        have := headM_length m
        omega
      have hx0 : 0 ≤ x % 18446744073709551616 := by omega
      have hx1 : x % 18446744073709551616 < 18446744073709551616 := by omega
      clear hx
      go_wp2_with (go_at_call 84; refine (putI_any w.heap.size v _ (x % 18446744073709551616) 8 _ HO.out HF.out.size hx0 hx1 (by omega) hlen).mono ?_; rintro e w2 ⟨v2, rfl, ho2, hf2⟩)
      go_roundg (4 - (i + 1))
      case measure => omega
      case rel => exact ⟨i + 1, v2, by omega, by go_num, rfl, by rw [HX.out, u64N_def, ← List.append_assoc]; exact ho2, HB.out.u8 hf2 (by decide), U8.since HF.out hf2⟩
    · have hi1 : (4 : Int) ≤ (i : Int) := by omega
      obtain rfl : i = 4 := by omega
      have hall : (numsM m).take 4 = numsM m := List.take_of_length_le (by rw [numsM_length]; omega)
      rw [hall] at HO
      obtain ⟨pre, hpre⟩ : ∃ pre, pre = headM m ++ numB (numsM m) := ⟨_, rfl⟩
      rw [← hpre] at HO
      have hplen : pre.length = 36 := by rw [hpre, List.length_append, numB_length, headM_length, numsM_length]
      have HP := Lib.hid (frontM_eq m)
      rw [← hpre] at HP
      have HFL := Lib.hid (frontM_length m)
      have hml : m.text.size ≤ 20 := right_len HR.out
      clear hpre hall
      obtain ⟨s0, s1, s2, s3, s4, s5, s6, s7⟩ := HB.out.cells8
      have lG := HB.out.lt
      have hm0 : (0 : Int) ≤ (m.text.size : Int) := by omega
      have hm1 : (m.text.size : Int) ≤ 20 := by omega
      obtain ⟨A4, c4, rfl, _⟩ := own_shape HO.out
      obtain ⟨bv, rfl⟩ := buf_some HO.out (by omega)
      have nb := buf_ne HO.out HB.out (by decide)
      rw [hplen] at HO
      go_wp2
      refine OS.wp_region_o (fun k => k = bv) [(0, 0), (1, 0), (7, 0), (2, 1), (8, 1), (3, 1), (4, 0), (5, 2), (6, 2), (9, 3), (10, 0)] (by kernel_rfl) (by kernel_rfl) ?_
      repeat (first
        | (apply OS.wpO_pure rfl rfl; (focus (intro w'; go_simp; (try rfl); done)); try simp only [Act.put, List.setIfInBounds_toArray, List.set_cons_zero, List.set_cons_succ])
        | (apply OS.wpO_read rfl rfl; (focus (intro w' hf' hs'; (try simp only [World.size_drew, World.cell?_drew, World.size_alloc, World.size_setCell, not_false_eq_true, forall_const] at hs'); go_simp; (try rfl); done)); try simp only [Act.put, List.setIfInBounds_toArray, List.set_cons_zero, List.set_cons_succ])
        | (apply OS.wpO_skip (by decide) rfl rfl; try simp only [Act.put, List.setIfInBounds_toArray, List.set_cons_zero, List.set_cons_succ]))
      refine OS.wpO_loudE rfl fun K hK => ?_
      go_simp
      refine hK _ _ ⟨by (repeat (first | exact Fr.refl _ _ | assumption | refine Fr.drew ?_ | refine Fr.alloc ?_ _ | refine Fr.drewL ?_)), ?_⟩
      clear hK K
      repeat (first
        | (apply OS.wpO_pure rfl rfl; (focus (intro w'; go_simp; (try rfl); done)); try simp only [Act.put, List.setIfInBounds_toArray, List.set_cons_zero, List.set_cons_succ])
        | (apply OS.wpO_read rfl rfl; (focus (intro w' hf' hs'; (try simp only [World.size_drew, World.cell?_drew, World.size_alloc, World.size_setCell, not_false_eq_true, forall_const] at hs'); go_simp; (try rfl); done)); try simp only [Act.put, List.setIfInBounds_toArray, List.set_cons_zero, List.set_cons_succ])
        | (apply OS.wpO_skip (by decide) rfl rfl; try simp only [Act.put, List.setIfInBounds_toArray, List.set_cons_zero, List.set_cons_succ]))
      simp only [IntKind.wrap_u8]
      have FA := ((Fr.refl No wr).alloc (Obj.cells #[.int .u8 ((m.text.size : Int) % 256)] 5)).drew
      have hO2 : (wr.alloc (Obj.cells #[.int .u8 ((m.text.size : Int) % 256)] 5)).drew.ownsRow w.heap.size 5 1 (.slice (some ⟨bv, 0, none⟩) 36 c4) pre.length (enc8 pre) := own_fr0 HO.out FA
      refine OS.wpO_loudE rfl fun K hK => ?_
      refine step_buf_append (by rfl) (.tmp 37) (.tmp 42) (by rfl) (w.heap.size) (.slice (some ⟨bv, 0, none⟩) 36 c4) (pre) (by rfl) (hO2) (_) (1) (1) (_) ([UInt8.ofNat m.text.size]) (by rfl) ((sl_byte wr m.text.size).drew) (by omega) (by have := HF.out.size; simp only [World.size_drew, World.size_alloc]; omega) ?_
      intro v2 w2 ho_v2 hg_v2
      refine hK _ _ ⟨(Fr.of_grown hg_v2).mono (fun k _ hk => Option.some.inj hk), ?_⟩
      clear hK K
      try simp only [Act.put, List.setIfInBounds_toArray, List.set_cons_zero, List.set_cons_succ]
      have F2 := U8.grown ((Fr.refl (U8 w.heap.size (wr.alloc (Obj.cells #[.int .u8 ((m.text.size : Int) % 256)] 5)).drew) _)) hO2 hg_v2
      refine OS.wpO_loud rfl fun K hK => ?_
      refine step_str_append (by rfl) (.tmp 43) (.tmp 45) (by rfl) (w.heap.size) (v2) (pre ++ [UInt8.ofNat m.text.size]) (by rfl) (ho_v2) (m.text) (by rfl) (by rw [List.length_append, hplen]; simp only [List.length_cons, List.length_nil]; omega) (by have := HF.out.size; have := F2.size; simp only [World.size_drew, World.size_alloc] at this; omega) ?_
      intro v3 w3 ho_v3 hg_v3
      refine hK _ _ ?_
      clear hK K
      try simp only [Act.put, List.setIfInBounds_toArray, List.set_cons_zero, List.set_cons_succ]
      have F3 := U8.grown F2 ho_v2 hg_v3
      have HF3 := Lib.hid (U8.since (HF.out.trans FA) F3)
      have e3 : pre ++ [UInt8.ofNat m.text.size] ++ m.text.data.toList = frontM m := by rw [HP.out, textM, List.append_assoc]; rfl
      rw [e3] at ho_v3
      obtain ⟨A3, c3, rfl, _⟩ := own_shape ho_v3
      have HO3 := Lib.hid ho_v3
      clear ho_v3 ho_v2 hg_v2 hg_v3 F2 F3 FA hO2 e3 HP
      have hcl := crc_lt (frontM m)
      obtain ⟨cv, hcv⟩ : ∃ cv, cv = crc (frontM m) := ⟨_, rfl⟩
      rw [← hcv] at hcl
      have HCV := Lib.hid hcv
      clear hcv
      have hcv0 : (0 : Int) ≤ (cv : Int) := by omega
      repeat (first
        | (apply OS.wpO_pure rfl rfl; (focus (intro w'; go_simp; (try rfl); done)); try simp only [Act.put, List.setIfInBounds_toArray, List.set_cons_zero, List.set_cons_succ])
        | (apply OS.wpO_read rfl rfl; (focus (intro w' hf' hs'; (try simp only [World.size_drew, World.cell?_drew, World.size_alloc, World.size_setCell, not_false_eq_true, forall_const] at hs'); go_simp; (try rfl); done)); try simp only [Act.put, List.setIfInBounds_toArray, List.set_cons_zero, List.set_cons_succ])
        | (apply OS.wpO_skip (by decide) rfl rfl; try simp only [Act.put, List.setIfInBounds_toArray, List.set_cons_zero, List.set_cons_succ]))
      refine OS.wpO_nil ?_
      go_wp2_with (first
        | (go_at_call 85; refine (sum_any A3 c3 _ (frontM m) _ (Sl.of_own HO3.out) (by rw [HFL.out]; simp only [maxLen]; omega)).mono ?_; rintro e w4 ⟨rfl, hf4⟩; have HF4 := Lib.hid hf4; rw [← HCV.out]; clear hf4)
        | (go_at_call 84; refine (put_any w.heap.size _ (frontM m) cv 4 _ (own_fr0 HO3.out HF4.out) (HF3.out.trans HF4.out).size (by omega) (by omega) (by rw [HFL.out]; omega)).mono ?_; rintro e w5 ⟨v5, rfl, ho5, hf5⟩; rw [HCV.out, ← bytesM_eq] at ho5; obtain ⟨A5, c5, rfl, _⟩ := own_shape ho5; have HO5 := Lib.hid ho5; have HF5 := Lib.hid (U8.since (HF3.out.trans HF4.out) hf5); clear ho5 hf5))
      go_ret2
      exact ⟨A5, c5, by rfl, HO5.out, HF5.out⟩
end Go.Proofs.Ytegogggemmcgdaa

/- wire.get; the reference's get. -/
namespace Go.Proofs.Ytegogggemmcgdaa
open Go Go.RowKit Go.Proofs

theorem or_byte (x b : Nat) (hx : x < 72057594037927936) (hb : b < 256) : bits .or .u64 ((x : Int) * 256) (b : Int) = ((b + 256 * x : Nat) : Int) := by
  rw [bits_join .u64 64 (by decide) (fun n h h' => by simp [IntKind.wrap, IntKind.signed, IntKind.bits]; omega) 8 _ _ (by omega) (by omega) (by omega) (by omega) (by omega) (by omega)]
  omega
def GetRel (w0 : World) (l : Bs) (g : Nat) (v2 v3 : Value) (wr : World) : Prop :=
  ∃ (x : Nat) (y : Int), g ≤ l.length ∧ v3 = .int .i64 y ∧ y = (g : Int) - 1 ∧ v2 = .int .u64 x ∧ x = leN (l.drop g) ∧ wr = w0
set_option maxRecDepth 100000 in
set_option maxHeartbeats 1000000 in
theorem get_any (A : Option Addr) (c : Nat) (e : TypeId) (l : Bs) (w : World) (h : Sl w e 1 A l.length (enc8 l)) (hl : l.length ≤ 8) :
    Calls Try.prog 89 #[.slice A l.length c] w fun e w' => e = .returned (.int .u64 (leN l)) ∧ w' = w := by
  have H := Lib.hid h
  have hl0 : (0 : Int) ≤ (l.length : Int) := by omega
  clear h
  go_enter Try.func89, Try.ntmps89
  go_wp2
  go_loopg [2, 3] l.length (fun g v2 v3 wr => GetRel w l g v2 v3 wr)
  case atStart => exact ⟨0, _, Nat.le_refl _, rfl, by go_num, rfl, by simp [leN], rfl⟩
  case round =>
    obtain ⟨x, y, hg, rfl, hy, rfl, hx, rfl⟩ := hrel
    have HX := Lib.hid hx
    clear hx
    rcases Nat.eq_zero_or_pos gk with h0 | h0
    · subst h0
      have hy0 : y < 0 := by omega
      clear hy
      go_wp2
      go_ret
      have hxx := HX.out
      exact ⟨by rw [hxx]; rfl, rfl⟩
    · obtain ⟨k, rfl⟩ : ∃ k, gk = k + 1 := ⟨gk - 1, by omega⟩
      obtain ⟨hyk⟩ : y = (k : Int) ∧ True := ⟨by omega, trivial⟩
      clear hy
      subst hyk
      have hk0 : (0 : Int) ≤ (k : Int) := by omega
      have hk1 : (k : Int) < (l.length : Int) := by omega
      obtain ⟨b, hb⟩ : ∃ b, l[k]? = some b := ⟨_, List.getElem?_eq_getElem (by omega)⟩
      obtain ⟨g, o, rfl, hg1, hc, _⟩ := H.out.cells (by omega)
      have n0 := hc k _ (enc8_get hb)
      clear hc
      have hx0 : (0 : Int) ≤ (x : Int) := by omega
      have hx1 : (x : Int) < 72057594037927936 := by
        have h1 := leN_lt (l.drop (k + 1))
        have h2 : (l.drop (k + 1)).length ≤ 7 := by rw [List.length_drop]; omega
        have h3 := Nat.pow_le_pow_right (show 0 < 256 by omega) h2
        rw [← HX.out] at h1
        omega
      have hb0 : (0 : Int) ≤ (b.toNat : Int) := by omega
      have hb1 : (b.toNat : Int) < 256 := by have := b.toNat_lt; omega
      have HD := Lib.hid (leN_drop hb)
      obtain ⟨bn, hbn⟩ : ∃ bn, bn = b.toNat := ⟨_, rfl⟩
      rw [← hbn] at n0 hb0 hb1 HD
      clear hbn hb
      go_wp2
      go_roundg k
      case measure => omega
      case rel => exact ⟨bn + 256 * x, (k : Int) - 1, by omega, by go_num, rfl, by rw [or_byte x bn (by omega) (by omega)], by rw [HD.out, ← HX.out], rfl⟩
set_option maxRecDepth 100000 in
set_option maxHeartbeats 1000000 in
theorem refGet_any (A : Option Addr) (c : Nat) (e : TypeId) (l : Bs) (w : World) (h : Sl w e 1 A l.length (enc8 l)) (hl : l.length ≤ 8) :
    Calls Try.prog 90 #[.slice A l.length c] w fun e w' => e = .returned (.int .u64 (leN l)) ∧ w' = w := by
  have H := Lib.hid h
  have hl0 : (0 : Int) ≤ (l.length : Int) := by omega
  clear h
  go_enter Try.func90, Try.ntmps90
  go_wp2
  go_loopg [3, 4] l.length (fun g v3 v4 wr => GetRel w l g v3 v4 wr)
  case atStart => exact ⟨0, _, Nat.le_refl _, rfl, by go_num, rfl, by simp [leN], rfl⟩
  case round =>
    obtain ⟨x, y, hg, rfl, hy, rfl, hx, rfl⟩ := hrel
    have HX := Lib.hid hx
    clear hx
    rcases Nat.eq_zero_or_pos gk with h0 | h0
    · subst h0
      have hy0 : y < 0 := by omega
      clear hy
      go_wp2
      go_ret
      have hxx := HX.out
      exact ⟨by rw [hxx]; rfl, rfl⟩
    · obtain ⟨k, rfl⟩ : ∃ k, gk = k + 1 := ⟨gk - 1, by omega⟩
      obtain ⟨hyk⟩ : y = (k : Int) ∧ True := ⟨by omega, trivial⟩
      clear hy
      subst hyk
      have hk0 : (0 : Int) ≤ (k : Int) := by omega
      have hk1 : (k : Int) < (l.length : Int) := by omega
      obtain ⟨b, hb⟩ : ∃ b, l[k]? = some b := ⟨_, List.getElem?_eq_getElem (by omega)⟩
      obtain ⟨g, o, rfl, hg1, hc, _⟩ := H.out.cells (by omega)
      have n0 := hc k _ (enc8_get hb)
      clear hc
      have hx0 : (0 : Int) ≤ (x : Int) := by omega
      have hx1 : (x : Int) < 72057594037927936 := by
        have h1 := leN_lt (l.drop (k + 1))
        have h2 : (l.drop (k + 1)).length ≤ 7 := by rw [List.length_drop]; omega
        have h3 := Nat.pow_le_pow_right (show 0 < 256 by omega) h2
        rw [← HX.out] at h1
        omega
      have hb0 : (0 : Int) ≤ (b.toNat : Int) := by omega
      have hb1 : (b.toNat : Int) < 256 := by have := b.toNat_lt; omega
      have HD := Lib.hid (leN_drop hb)
      obtain ⟨bn, hbn⟩ : ∃ bn, bn = b.toNat := ⟨_, rfl⟩
      rw [← hbn] at n0 hb0 hb1 HD
      clear hbn hb
      go_wp2
      go_roundg k
      case measure => omega
      case rel => exact ⟨bn + 256 * x, (k : Int) - 1, by omega, by go_num, rfl, by rw [or_byte x bn (by omega) (by omega)], by rw [HD.out, ← HX.out], rfl⟩
end Go.Proofs.Ytegogggemmcgdaa

/- wire.Get: a message out of bytes. -/
namespace Go.Proofs.Ytegogggemmcgdaa
open Go Go.RowKit Go.Proofs

def at8 (l : Bs) (i : Nat) : Int := ((l.getD i 0).toNat : Int)
def i64N (u : Nat) : Int := IntKind.i64.wrap (u : Int)
def num8 (l : Bs) (i : Nat) : Int := i64N (leN ((l.drop (4 + i * 8)).take 8))
def txt8 (l : Bs) : Bs := (l.drop 37).take (l.length - 41)
def parse (l : Bs) : Msg := ⟨at8 l 1, at8 l 2, at8 l 3, num8 l 0, num8 l 1, num8 l 2, num8 l 3, strB (txt8 l)⟩
def fitB (l : Bs) : Bool := at8 l 0 == 167 && (41 + at8 l 36 == (l.length : Int) && leN (l.drop (l.length - 4)) == crc (l.take (l.length - 4)))
def getR (l : Bs) : Msg × Int := if l.length < 41 then (zeroMsg, 10) else if fitB l && rightB (parse l) then (parse l, 0) else (zeroMsg, 11)
theorem at8_cell {w : World} {e : TypeId} {g o n : Nat} {l : Bs} (h : Sl w e 1 (some ⟨g, o, none⟩) n (enc8 l)) (hn : n = l.length) (i : Nat) (hi : i < l.length) : w.cell? ⟨g, o + i, none⟩ = some (.int .u8 (at8 l i)) := by
  subst hn
  obtain ⟨b, o', hA, _, hc, _⟩ := h.cells (by omega)
  have hA := Option.some.inj hA
  injection hA with h1 h2
  subst h1 h2
  have h1 : l[i]? = some l[i] := List.getElem?_eq_getElem hi
  rw [hc i _ (enc8_get h1), at8, List.getD_eq_getElem?_getD, h1]
  rfl
theorem at8_range (l : Bs) (i : Nat) : 0 ≤ at8 l i ∧ at8 l i < 256 := by
  unfold at8
  have := (l.getD i 0).toNat_lt
  omega
/-- a cut of a slice of bytes -/
def cutA (A : Option Addr) (lo c : Nat) : Option Addr := if c = lo then A else A.map (·.add lo)
theorem sl_cut {w : World} {e : TypeId} {A : Option Addr} {l : Bs} (h : Sl w e 1 A l.length (enc8 l)) {lo hi c : Nat} (h1 : lo ≤ hi) (h2 : hi ≤ l.length) (h3 : hi ≤ c) : Sl w e 1 (cutA A lo c) (hi - lo) (enc8 ((l.drop lo).take (hi - lo))) := by
  have := h.cut (l := lo) (k := hi) (c := c) (m := c) h1 h2 h3
  simp only [Nat.mul_one] at this
  have e1 : enc8 ((l.drop lo).take (hi - lo)) = ((enc8 l).drop lo).take (hi - lo) := by simp [enc8, List.map_take, List.map_drop]
  rw [e1]
  exact this
theorem slice_lh {A : Option Addr} {n c : Nat} (kl kh : IntKind) (lo hi : Nat) (h1 : lo ≤ hi) (h2 : hi ≤ n) (h3 : n ≤ c) (w : World) :
    (Instr.slice 50 (.slice A n c) (some (.int kl (lo : Int))) (some (.int kh (hi : Int))) none).run Try.prog w = .ok (.slice (cutA A lo c) (hi - lo) (c - lo)) w := by
  obtain ⟨i, hi', hz, hs, hb⟩ := info_parts u8_info
  rw [run_slice_lh (P := Try.prog) (w := w) 50 A n c (by kernel_rfl) kl kh lo hi (by omega) (by omega) (by omega)]
  have e5 : Try.prog.elem 50 = 5 := by kernel_rfl
  rw [e5]
  simp [sizeOf, typeInfo, hi', hs, sliced, cutA]
theorem slice_l {A : Option Addr} {n c : Nat} (kl : IntKind) (lo : Nat) (h1 : lo ≤ n) (w : World) :
    (Instr.slice 50 (.slice A n c) (some (.int kl (lo : Int))) none none).run Try.prog w = .ok (.slice (cutA A lo c) (n - lo) (c - lo)) w := by
  obtain ⟨i, hi', hz, hs, hb⟩ := info_parts u8_info
  rw [run_slice_l (P := Try.prog) (w := w) 50 A n c (by kernel_rfl) kl lo (by omega) (by omega)]
  have e5 : Try.prog.elem 50 = 5 := by kernel_rfl
  rw [e5]
  simp [sizeOf, typeInfo, hi', hs, sliced, cutA]
theorem slice_h {A : Option Addr} {n c : Nat} (kh : IntKind) (hi : Nat) (h2 : hi ≤ c) (w : World) :
    (Instr.slice 50 (.slice A n c) none (some (.int kh (hi : Int))) none).run Try.prog w = .ok (.slice (cutA A 0 c) (hi - 0) (c - 0)) w := by
  obtain ⟨i, hi', hz, hs, hb⟩ := info_parts u8_info
  rw [run_slice_h (P := Try.prog) (w := w) 50 A n c (by kernel_rfl) kh hi (by omega) (by omega)]
  have e5 : Try.prog.elem 50 = 5 := by kernel_rfl
  rw [e5]
  simp [sizeOf, typeInfo, hi', hs, sliced, cutA]
theorem get_res {tmps : Array Value} {w : World} {g : Nat} {x : Msg} {e : Int} (h : Blk w g 28 x.vals) (h4 : tmps.getD 2 undef = .pointer (some ⟨g, 0, none⟩)) (h5 : tmps.getD 3 undef = .int .i64 e) :
    (results Try.f49 tmps).run Try.prog w = .ok (msgErr x e) w := by
  obtain ⟨r0, r1, r2, r3, r4, r5, r6, r7⟩ := h.cells8
  simp only [Array.getD_eq_getD_getElem?] at h4 h5
  simp [results, Try.results49, go_sem, h4, h5, r0, r1, r2, r3, r4, r5, r6, r7]
theorem fitB_def (l : Bs) : fitB l = (at8 l 0 == 167 && (41 + at8 l 36 == (l.length : Int) && leN (l.drop (l.length - 4)) == crc (l.take (l.length - 4)))) := rfl
theorem num8_def (l : Bs) (i : Nat) : num8 l i = IntKind.i64.wrap ((leN ((l.drop (4 + i * 8)).take 8) : Nat) : Int) := rfl
theorem txt8_def (l : Bs) : txt8 l = (l.drop 37).take (l.length - 41) := rfl
theorem parse_def (l : Bs) : parse l = ⟨at8 l 1, at8 l 2, at8 l 3, num8 l 0, num8 l 1, num8 l 2, num8 l 3, strB (txt8 l)⟩ := rfl
theorem cutA_def (A : Option Addr) (lo c : Nat) : cutA A lo c = if c = lo then A else A.map (·.add lo) := rfl
theorem at8_def (l : Bs) (i : Nat) : at8 l i = ((l.getD i 0).toNat : Int) := rfl
attribute [irreducible] at8 i64N num8 txt8 fitB getR cutA parse
set_option maxRecDepth 100000 in
set_option maxHeartbeats 1000000 in
theorem getM_short (A : Option Addr) (c n : Nat) (w : World) (hn : n < 41) :
    Calls Try.prog 49 #[.slice A n c] w fun e w' => e = .returned (msgErr zeroMsg 10) ∧ Fr No w w' := by
  have hn1 : (n : Int) < 41 := by omega
  have HB := Lib.hid (Blk.new w 28 zeroMsg.vals)
  obtain ⟨r0, r1, r2, r3, r4, r5, r6, r7⟩ := HB.out.cells8
  have hfz := HB.out.frozens
  have lG := HB.out.lt
  go_enter Try.func49, Try.ntmps49
  go_wp2
  exact bodyPost_ret (v := msgErr zeroMsg 10) (get_res (x := zeroMsg) HB.out rfl rfl) rfl ⟨rfl, (Fr.refl _ _).alloc _⟩
theorem u64_in (n : Nat) (h : n < 18446744073709551616) : IntKind.u64.wrap (n : Int) = (n : Int) := by
  simp [IntKind.wrap, IntKind.signed, IntKind.bits]
  omega
/-- what lies in the slice -/
structure GetIn (w : World) (g o c : Nat) (e : TypeId) (l : Bs) : Prop where
  sl : Sl w e 1 (some ⟨g, o, none⟩) l.length (enc8 l)
  long : 41 ≤ l.length
  cap : l.length ≤ c
  most : l.length ≤ maxLen
theorem tail_cut {w : World} {g o c : Nat} {e : TypeId} {l : Bs} (h : GetIn w g o c e l) : ∃ (k : Nat) (T F : Bs) (At Af : Option Addr) (ct cf : Nat), (l.length : Int) - 4 = (k : Int) ∧ T.length = 4 ∧
    (∀ w, (Instr.slice 50 (.slice (some ⟨g, o, none⟩) l.length c) (some (.int .i64 (k : Int))) none none).run Try.prog w = .ok (.slice At T.length ct) w) ∧
    (∀ w, (Instr.slice 50 (.slice (some ⟨g, o, none⟩) l.length c) none (some (.int .i64 (k : Int))) none).run Try.prog w = .ok (.slice Af F.length cf) w) ∧
    Hid (Sl w e 1 At T.length (enc8 T)) ∧ Hid (Sl w e 1 Af F.length (enc8 F)) ∧ Hid (F.length ≤ maxLen) ∧ Hid (T = l.drop (l.length - 4) ∧ F = l.take (l.length - 4)) := by
  have h1 := h.long
  have h2 := h.cap
  have h3 := h.most
  refine ⟨l.length - 4, l.drop (l.length - 4), l.take (l.length - 4), cutA (some ⟨g, o, none⟩) (l.length - 4) c, cutA (some ⟨g, o, none⟩) 0 c, c - (l.length - 4), c - 0, by omega, by rw [List.length_drop]; omega, fun w => ?_, fun w => ?_, Lib.hid ?_, Lib.hid ?_, Lib.hid ?_, Lib.hid ⟨rfl, rfl⟩⟩
  · rw [slice_l .i64 (l.length - 4) (by omega) w, List.length_drop]
  · rw [slice_h .i64 (l.length - 4) (by omega) w, List.length_take, Nat.min_eq_left (by omega), Nat.sub_zero]
  · have := sl_cut h.sl (lo := l.length - 4) (hi := l.length) (c := c) (by omega) (Nat.le_refl _) h2
    rw [List.take_of_length_le (by rw [List.length_drop]; omega)] at this
    rw [List.length_drop]
    exact this
  · have := sl_cut h.sl (lo := 0) (hi := l.length - 4) (c := c) (by omega) (by omega) (by omega)
    rw [List.drop_zero, Nat.sub_zero] at this
    rw [List.length_take, Nat.min_eq_left (by omega)]
    exact this
  · rw [List.length_take, Nat.min_eq_left (by omega)]
    omega
set_option maxRecDepth 100000 in
set_option maxHeartbeats 1000000 in
theorem getM_unfit (g o c : Nat) (e : TypeId) (l : Bs) (w : World) (h : GetIn w g o c e l) (hf : fitB l = false) :
    Calls Try.prog 49 #[.slice (some ⟨g, o, none⟩) l.length c] w fun e w' => e = .returned (msgErr zeroMsg 11) ∧ Fr No w w' := by
  have H := Lib.hid h
  have hl0 : (41 : Int) ≤ (l.length : Int) := by have := h.long; omega
  have hl2 : (l.length : Int) ≤ 9223372036854775807 := by have := h.most; simp only [maxLen] at this; omega
  have hlc : (l.length : Int) ≤ (c : Int) := by have := h.cap; omega
  have hl3 : (0 : Int) < (l.length : Int) := by omega
  have hl36 : (36 : Int) < (l.length : Int) := by omega
  have hl5 : 0 < l.length := by omega
  have hl6 : l ≠ [] := by intro e; subst e; simp at hl5
  obtain ⟨k, T, F, At, Af, ct, cf, hk, hT4, hst, hsf, HT, HF, HFM, HTF⟩ := tail_cut h
  have HT4 := Lib.hid hT4
  clear hT4
  have n0 := at8_cell h.sl rfl 0 (by have := h.long; omega)
  have n36 := at8_cell h.sl rfl 36 (by have := h.long; omega)
  rw [Nat.add_zero] at n0
  obtain ⟨q0, q1⟩ := at8_range l 0
  obtain ⟨p0, p1⟩ := at8_range l 36
  have HFIT := Lib.hid (fitB_def l)
  rw [← HTF.out.1, ← HTF.out.2] at HFIT
  generalize at8 l 0 = x0 at n0 q0 q1 HFIT
  generalize at8 l 36 = x36 at n36 p0 p1 HFIT
  have hg1 : g < w.heap.size := by
    obtain ⟨b, o', hA, hb, _⟩ := h.sl.cells (by have := h.long; omega)
    have hA := Option.some.inj hA
    injection hA with h1 h2
    subst h1
    exact hb
  clear h
  have hw1 : IntKind.i64.wrap x36 = x36 := IntWalk.i64_in _ (by omega)
  have hw2 : IntKind.i64.wrap (41 + x36) = 41 + x36 := IntWalk.i64_in _ (by omega)
  have HB := Lib.hid (Blk.new w 28 zeroMsg.vals)
  obtain ⟨r0, r1, r2, r3, r4, r5, r6, r7⟩ := HB.out.cells8
  have hfz := HB.out.frozens
  have lG := HB.out.lt
  rw [hf] at HFIT
  clear hf
  by_cases hx0 : x0 = 167
  · subst hx0
    by_cases hx36 : 41 + x36 = (l.length : Int)
    · have hxb : (41 + x36 != (l.length : Int)) = false := by simp [hx36]
      have hne : leN T ≠ crc F := by
        intro he
        have := HFIT.out
        rw [he] at this
        simp [hx36] at this
      clear hx36 HFIT
      obtain ⟨gt, hgt⟩ : ∃ gt, gt = leN T := ⟨_, rfl⟩
      obtain ⟨cv, hcv⟩ : ∃ cv, cv = crc F := ⟨_, rfl⟩
      have hcl := crc_lt F
      rw [← hcv] at hcl hne
      rw [← hgt] at hne
      have hnb : ((gt : Int) != (cv : Int)) = true := bne_iff_ne.2 (by omega)
      have HGT := Lib.hid hgt
      have HCV := Lib.hid hcv
      have hcv0 : (0 : Int) ≤ (cv : Int) := by omega
      have hwc := u64_in cv (by omega)
      clear hgt hcv hne
      go_enter Try.func49, Try.ntmps49
      go_wp2
      refine wp_region_o [(0, 0), (1, 0), (2, 1), (3, 0), (4, 0), (5, 0), (6, 0), (7, 1), (8, 0), (9, 0), (10, 0), (11, 1), (12, 0), (13, 0), (14, 0), (15, 0), (16, 0), (17, 0), (19, 0), (20, 0), (21, 0), (18, 2), (22, 2), (23, 0), (24, 0), (25, 0)] (by kernel_rfl) (by kernel_rfl) ?_
      repeat (first
        | (apply wpO_pure rfl rfl; (focus (intro w'; go_simp; (try rfl); done)); try simp only [Act.put, List.setIfInBounds_toArray, List.set_cons_zero, List.set_cons_succ])
        | (apply wpO_read rfl rfl; (focus (intro w' hf' hs'; (try simp only [World.size_drew, World.cell?_drew, World.size_alloc, World.size_setCell] at hs'); go_simp; (try rfl); done)); try simp only [Act.put, List.setIfInBounds_toArray, List.set_cons_zero, List.set_cons_succ])
        | (apply wpO_skip (by decide) rfl rfl; try simp only [Act.put, List.setIfInBounds_toArray, List.set_cons_zero, List.set_cons_succ]))
      have F0 := ((Fr.refl No w).alloc (Obj.cells #[.int .i64 0, .int .i64 0, .int .i64 0, .int .i64 0, .int .i64 0, .int .i64 0, .int .i64 0, .string ⟨#[]⟩] 28)).drew
      refine wpO_loudE rfl fun K hK => ?_
      go_simp
      refine (get_any At ct e T _ (HT.out.fr0 F0) (by have := HT4.out; omega)).mono ?_
      rintro e w1 ⟨rfl, hw1'⟩
      refine hK _ _ ⟨hw1'.symm ▸ Fr.refl _ _, ?_⟩
      clear hK K
      obtain rfl := hw1'.symm
      rw [← HGT.out]
      repeat (first
        | (apply wpO_pure rfl rfl; (focus (intro w'; go_simp; (try rfl); done)); try simp only [Act.put, List.setIfInBounds_toArray, List.set_cons_zero, List.set_cons_succ])
        | (apply wpO_read rfl rfl; (focus (intro w' hf' hs'; (try simp only [World.size_drew, World.cell?_drew, World.size_alloc, World.size_setCell] at hs'); go_simp; (try rfl); done)); try simp only [Act.put, List.setIfInBounds_toArray, List.set_cons_zero, List.set_cons_succ])
        | (apply wpO_skip (by decide) rfl rfl; try simp only [Act.put, List.setIfInBounds_toArray, List.set_cons_zero, List.set_cons_succ]))
      refine wpO_loudE rfl fun K hK => ?_
      go_simp
      refine (sum_any Af cf e F _ (HF.out.fr0 F0) HFM.out).mono ?_
      rintro e w2 ⟨rfl, hf2⟩
      refine hK _ _ ⟨hf2, ?_⟩
      clear hK K
      rw [← HCV.out]
      have HF2 := Lib.hid (F0.trans hf2)
      have B2 := (HB.out.drew).fr hf2 (fun h => h)
      obtain ⟨s0, s1, s2, s3, s4, s5, s6, s7⟩ := B2.cells8
      have sfz := B2.frozens
      have sG := B2.lt
      have HB2 := Lib.hid B2
      clear hf2 B2 F0
      repeat (first
        | (apply wpO_pure rfl rfl; (focus (intro w'; go_simp; (try rfl); done)); try simp only [Act.put, List.setIfInBounds_toArray, List.set_cons_zero, List.set_cons_succ])
        | (apply wpO_read rfl rfl; (focus (intro w' hf' hs'; (try simp only [World.size_drew, World.cell?_drew, World.size_alloc, World.size_setCell] at hs'); go_simp; (try rfl); done)); try simp only [Act.put, List.setIfInBounds_toArray, List.set_cons_zero, List.set_cons_succ])
        | (apply wpO_skip (by decide) rfl rfl; try simp only [Act.put, List.setIfInBounds_toArray, List.set_cons_zero, List.set_cons_succ]))
      refine wpO_nil ?_
      go_wp2
      exact bodyPost_ret (v := msgErr zeroMsg 11) (get_res (x := zeroMsg) (HB2.out.set8 zeroMsg) rfl rfl) rfl ⟨rfl, HF2.out.set8 (.inr (Nat.le_refl _)) zeroMsg⟩
    · have hxb : (41 + x36 != (l.length : Int)) = true := bne_iff_ne.2 hx36
      clear hx36 hst hsf HFIT
      go_enter Try.func49, Try.ntmps49
      go_wp2
      refine wp_region_o [(0, 0), (1, 0), (2, 1), (3, 0), (4, 0), (5, 0), (6, 0), (7, 1), (8, 0), (9, 0), (10, 0), (11, 1), (12, 0), (13, 0), (14, 0), (15, 0), (16, 0), (17, 0), (19, 0), (20, 0), (21, 0), (18, 1), (22, 1), (23, 0), (24, 0), (25, 0)] (by kernel_rfl) (by kernel_rfl) ?_
      repeat (first
        | (apply wpO_pure rfl rfl; (focus (intro w'; go_simp; (try rfl); done)); try simp only [Act.put, List.setIfInBounds_toArray, List.set_cons_zero, List.set_cons_succ])
        | (apply wpO_read rfl rfl; (focus (intro w' hf' hs'; (try simp only [World.size_drew, World.cell?_drew, World.size_alloc, World.size_setCell] at hs'); go_simp; (try rfl); done)); try simp only [Act.put, List.setIfInBounds_toArray, List.set_cons_zero, List.set_cons_succ])
        | (apply wpO_skip (by decide) rfl rfl; try simp only [Act.put, List.setIfInBounds_toArray, List.set_cons_zero, List.set_cons_succ]))
      refine wpO_nil ?_
      go_wp2
      exact bodyPost_ret (v := msgErr zeroMsg 11) (get_res (x := zeroMsg) HB.out.drew rfl rfl) rfl ⟨rfl, ((Fr.refl _ _).alloc _).drew⟩
  · have hxb : (x0 != 167) = true := bne_iff_ne.2 hx0
    clear hx0 hst hsf HFIT
    go_enter Try.func49, Try.ntmps49
    go_wp2
    refine wp_region_o [(0, 0), (1, 0), (2, 1), (3, 0), (4, 0), (5, 0), (6, 0), (7, 1), (8, 0), (9, 0), (10, 0), (11, 1), (12, 0), (13, 0), (14, 0), (15, 0), (16, 0), (17, 0), (19, 0), (20, 0), (21, 0), (18, 1), (22, 1), (23, 0), (24, 0), (25, 0)] (by kernel_rfl) (by kernel_rfl) ?_
    repeat (first
      | (apply wpO_pure rfl rfl; (focus (intro w'; go_simp; (try rfl); done)); try simp only [Act.put, List.setIfInBounds_toArray, List.set_cons_zero, List.set_cons_succ])
      | (apply wpO_read rfl rfl; (focus (intro w' hf' hs'; (try simp only [World.size_drew, World.cell?_drew, World.size_alloc, World.size_setCell] at hs'); go_simp; (try rfl); done)); try simp only [Act.put, List.setIfInBounds_toArray, List.set_cons_zero, List.set_cons_succ])
      | (apply wpO_skip (by decide) rfl rfl; try simp only [Act.put, List.setIfInBounds_toArray, List.set_cons_zero, List.set_cons_succ]))
    refine wpO_nil ?_
    go_wp2
    exact bodyPost_ret (v := msgErr zeroMsg 11) (get_res (x := zeroMsg) HB.out.drew rfl rfl) rfl ⟨rfl, ((Fr.refl _ _).alloc _).drew⟩
def nt (l : Bs) (i : Nat) : List Value := (List.range 4).map fun k => .int .i64 (if k < i then num8 l k else 0)
theorem nt_get {l : Bs} {i k : Nat} (hk : k < 4) : (nt l i)[k]? = some (.int .i64 (if k < i then num8 l k else 0)) := by
  rw [nt, List.getElem?_map, List.getElem?_range hk]
  rfl
theorem nt_set (l : Bs) (i : Nat) (hi : i < 4) : nt l (i + 1) = (nt l i).set i (.int .i64 (num8 l i)) := by
  apply List.ext_getElem?
  intro k
  by_cases hk : k < 4
  · rw [nt_get hk, List.getElem?_set]
    by_cases e : i = k
    · subst e
      have hl : i < (nt l i).length := by simp [nt, hk]
      simp [hl]
    · rw [if_neg e, nt_get hk]
      by_cases h : k < i
      · rw [if_pos (by omega), if_pos h]
      · rw [if_neg (by omega), if_neg h]
  · rw [List.getElem?_eq_none (by simp [nt]; omega), List.getElem?_eq_none (by simp [nt]; omega)]
def GLRel (w0 : World) (l : Bs) (G0 G5 : Nat) (g : Nat) (v42 : Value) (wr : World) : Prop :=
  ∃ i : Nat, i + g = 4 ∧ v42 = .int .i64 i ∧ Blk wr G5 146 (nt l i) ∧ Blk wr G0 28 zeroMsg.vals ∧ Fr No w0 wr
/-- one number's bytes -/
theorem num_cut {w : World} {g o c : Nat} {e : TypeId} {l : Bs} (h : GetIn w g o c e l) (i : Nat) (hi : i < 4) : ∃ (P : Bs) (Ap : Option Addr) (cp : Nat), P.length ≤ 8 ∧ P.length = 8 ∧ num8 l i = IntKind.i64.wrap ((leN P : Nat) : Int) ∧
    (∀ w, (Instr.slice 50 (.slice (some ⟨g, o, none⟩) l.length c) (some (.int .i64 (4 + (i : Int) * 8))) (some (.int .i64 (4 + ((i : Int) + 1) * 8))) none).run Try.prog w = .ok (.slice Ap P.length cp) w) ∧ Sl w e 1 Ap P.length (enc8 P) := by
  have h1 := h.long
  have h2 := h.cap
  have hl : ((l.drop (4 + i * 8)).take 8).length = 8 := by rw [List.length_take, List.length_drop]; omega
  refine ⟨(l.drop (4 + i * 8)).take 8, cutA (some ⟨g, o, none⟩) (4 + i * 8) c, c - (4 + i * 8), by omega, hl, num8_def l i, fun w => ?_, ?_⟩
  · have := slice_lh (A := some ⟨g, o, none⟩) (n := l.length) (c := c) .i64 .i64 (4 + i * 8) (4 + (i + 1) * 8) (by omega) (by omega) h2 w
    rw [hl]
    rw [show (((4 + i * 8 : Nat)) : Int) = 4 + (i : Int) * 8 by omega, show (((4 + (i + 1) * 8 : Nat)) : Int) = 4 + ((i : Int) + 1) * 8 by omega, show 4 + (i + 1) * 8 - (4 + i * 8) = 8 by omega] at this
    exact this
  · have := sl_cut h.sl (lo := 4 + i * 8) (hi := 4 + (i + 1) * 8) (c := c) (by omega) (by omega) (by omega)
    rw [show 4 + (i + 1) * 8 - (4 + i * 8) = 8 by omega] at this
    rw [hl]
    exact this
theorem GetIn.fr0 {w w' : World} {g o c : Nat} {e : TypeId} {l : Bs} (h : GetIn w g o c e l) (hf : Fr No w w') : GetIn w' g o c e l := ⟨h.sl.fr0 hf, h.long, h.cap, h.most⟩
theorem text_cut {w : World} {g o c : Nat} {e : TypeId} {l : Bs} (h : GetIn w g o c e l) (k : Nat) (hk : (l.length : Int) - 4 = (k : Int)) : ∃ (X : Bs) (Ax : Option Addr) (cx : Nat), X = txt8 l ∧
    (∀ w, (Instr.slice 50 (.slice (some ⟨g, o, none⟩) l.length c) (some (.int .i64 37)) (some (.int .i64 (k : Int))) none).run Try.prog w = .ok (.slice Ax X.length cx) w) ∧ Sl w e 1 Ax X.length (enc8 X) := by
  have h1 := h.long
  have h2 := h.cap
  have hl : (txt8 l).length = l.length - 41 := by rw [txt8_def, List.length_take, List.length_drop]; omega
  refine ⟨txt8 l, cutA (some ⟨g, o, none⟩) 37 c, c - 37, rfl, fun w => ?_, ?_⟩
  · have := slice_lh (A := some ⟨g, o, none⟩) (n := l.length) (c := c) .i64 .i64 37 k (by omega) (by omega) h2 w
    rw [hl]
    rw [show k - 37 = l.length - 41 by omega] at this
    exact this
  · have := sl_cut h.sl (lo := 37) (hi := k) (c := c) (by omega) (by omega) (by omega)
    rw [show k - 37 = l.length - 41 by omega, ← txt8_def] at this
    rw [hl]
    exact this
end Go.Proofs.Ytegogggemmcgdaa

/- codec.pipe in memory; a number that is written. -/
namespace Go.Proofs.Ytegogggemmcgdaa
open Go Go.RowKit Go.Proofs

/-- what writing changes: the pipe, rows of bytes from base on, new blocks -/
def FrP (p base : Nat) (w w' : World) : Prop := Fr (fun i => i = p ∨ U8 base w i) w w'
section
variable {w w' w1 w2 : World} {p base : Nat} {v : Value} {l : Bs}
theorem FrP.refl (p base : Nat) (w : World) : FrP p base w w := Fr.refl _ _
theorem FrP.back (h : FrP p base w w1) (k : Nat) (hk : k = p ∨ U8 base w1 k) : (k = p ∨ U8 base w k) ∨ w.heap.size ≤ k := by
  rcases hk with rfl | hk
  · exact .inl (.inl rfl)
  · rcases Nat.lt_or_ge k w.heap.size with hl | hl
    · by_cases hs : k = p ∨ U8 base w k
      · exact .inl hs
      · obtain ⟨hb, cur, fz, hc⟩ := hk
        rw [h.block k hl hs] at hc
        exact .inl (.inr ⟨hb, cur, fz, hc⟩)
    · exact .inr hl
theorem FrP.trans (h : FrP p base w w1) (h2 : FrP p base w1 w2) : FrP p base w w2 := h.step h2 fun k hk => h.back k hk
theorem FrP.no (h : Fr No w w1) : FrP p base w w1 := h.any _
theorem FrP.fr0 (h : FrP p base w w1) (h2 : Fr No w1 w2) : FrP p base w w2 := h.trans (FrP.no h2)
theorem FrP.grown (h : FrP p base w w1) (ho : Buf w1 base v l) (hg : w1.grownBy w2 v.ownBlock) : FrP p base w w2 :=
  Fr.grown h hg fun k hk => by
    obtain ⟨cur, hc⟩ := row_type ho k hk
    exact h.back k (.inr ⟨(own_size ho k hk).1, cur, _, hc⟩)
theorem FrP.set (h : FrP p base w w1) (i : Nat) (u : Value) : FrP p base w (w1.setCell ⟨p, i, none⟩ u) := Fr.setCell h (p := ⟨p, i, none⟩) (.inl (.inl rfl)) u
theorem FrP.blk {g : Nat} {t : TypeId} {cs : List Value} (h : Blk w g t cs) (hf : FrP p base w w') (hg : g ≠ p) (ht : t ≠ 5) : Blk w' g t cs := h.fr hf fun hS => by
  rcases hS with e | ⟨_, cur, fz, hc⟩
  · exact hg e
  · unfold Blk at h
    rw [h] at hc
    injection hc with hc
    injection hc with _ he
    exact ht he
theorem FrP.size (h : FrP p base w w') : w.heap.size ≤ w'.heap.size := Fr.size h
/-- all from base on is new -/
theorem FrP.zero (h : FrP p base w w1) (hb : w.heap.size ≤ base) (hp : w.heap.size ≤ p) : Fr No w w1 := h.mono fun k hl hk => by
  rcases hk with e | hk
  · omega
  · have := hk.1; omega
end
/-- a pipe that is written -/
structure PipeW (w : World) (p base : Nat) (v : Value) (l : Bs) (bad : Bool) : Prop where
  blk : Blk w p 109 [v, .bool true, .bool bad]
  buf : Buf w base v l
  size : base ≤ w.heap.size
theorem PipeW.fr0 {w w' : World} {p base : Nat} {v : Value} {l : Bs} {bad : Bool} (h : PipeW w p base v l bad) (hf : Fr No w w') : PipeW w' p base v l bad :=
  ⟨h.blk.fr hf (fun h => h), own_fr0 h.buf hf, Nat.le_trans h.size hf.size⟩
theorem Sl.of_blk {w : World} {g : Nat} {t : TypeId} {cs : List Value} (h : Blk w g t cs) (sz n : Nat) (hl : cs.length = n * sz) : Sl w t sz (some ⟨g, 0, none⟩) n cs :=
  ⟨hl, fun _ => ⟨g, 0, cs.toArray, (0, 0), rfl, h, fun j u hu => by simpa using hu⟩⟩

theorem buf_not {w : World} {p base : Nat} {v : Value} {l : Bs} {t : TypeId} {cs : List Value} (h : Buf w base v l) (hB : Blk w p t cs) (ht : t ≠ 5) (k : Nat) (hk : v.ownBlock = some k) : k ≠ p := by
  rintro rfl
  obtain ⟨cur, hc⟩ := row_type h k hk
  unfold Blk at hB
  rw [hB] at hc
  injection hc with hc
  injection hc with _ he
  exact ht he
theorem pipe_set {w : World} {p base : Nat} {v v2 : Value} {l : Bs} {bad : Bool} (hB : Blk w p 109 [v, .bool true, .bool bad]) (hO : Buf w base v2 l) (hs : base ≤ w.heap.size) : PipeW (w.setCell ⟨p, 0, none⟩ v2) p base v2 l bad :=
  ⟨hB.set_ 0 v2, own_fr hO ((Fr.refl (fun i => i = p) w).setCell (p := ⟨p, 0, none⟩) (.inl rfl) v2) (fun k hk => buf_not hO hB (by decide) k hk), by simpa [World.setCell] using hs⟩
/-- a number's bytes in the room -/
def rm (n : Int) (i : Nat) : List Value := (List.range 8).map fun k => .int .u8 (if k < i then n / 2 ^ (8 * k) % 256 else 0)
theorem rm_get {n : Int} {i k : Nat} (hk : k < 8) : (rm n i)[k]? = some (.int .u8 (if k < i then n / 2 ^ (8 * k) % 256 else 0)) := by
  rw [rm, List.getElem?_map, List.getElem?_range hk]
  rfl
theorem rm_set (n : Int) (i : Nat) (hi : i < 8) : rm n (i + 1) = (rm n i).set i (.int .u8 (n / 2 ^ (8 * i) % 256)) := by
  apply List.ext_getElem?
  intro k
  by_cases hk : k < 8
  · rw [rm_get hk, List.getElem?_set]
    by_cases e : i = k
    · subst e
      have hl : i < (rm n i).length := by simp [rm, hk]
      simp [hl]
    · rw [if_neg e, rm_get hk]
      by_cases h : k < i
      · rw [if_pos (by omega), if_pos h]
      · rw [if_neg (by omega), if_neg h]
  · rw [List.getElem?_eq_none (by simp [rm]; omega), List.getElem?_eq_none (by simp [rm]; omega)]
theorem leB_get (n k i : Nat) (h : i < k) : (leB n k)[i]? = some (UInt8.ofNat (n / 256 ^ i)) := by
  induction k generalizing n i with
  | zero => omega
  | succ k ih =>
    cases i with
    | zero => simp [leB]
    | succ i =>
      rw [leB, List.getElem?_cons_succ, ih _ _ (by omega), Nat.div_div_eq_div_mul, Nat.pow_succ, Nat.mul_comm 256]
theorem byte_of (n : Int) (i : Nat) (h : i < 8) : n / 2 ^ (8 * i) % 256 = ((UInt8.ofNat (u64N n / 256 ^ i)).toNat : Int) := by
  have e1 : (UInt8.ofNat (u64N n / 256 ^ i)).toNat = (u64N n / 256 ^ i) % 256 := UInt8.toNat_ofNat'
  have e2 : (2 : Int) ^ (8 * i) = ((256 ^ i : Nat) : Int) := by
    have e : ((2 ^ (8 * i) : Nat) : Int) = (2 : Int) ^ (8 * i) := Int.natCast_pow 2 (8 * i)
    rw [← e, Nat.pow_mul]
  have e3 := u64N_cast n
  rw [e1, e2]
  generalize u64N n = u at e3
  have key : ∀ q : Nat, 0 < q → 18446744073709551616 % (q * 256) = 0 → n / (q : Int) % 256 = ((u / q % 256 : Nat) : Int) := by
    intro q hq hd
    obtain ⟨r, hr⟩ : ∃ r : Nat, 18446744073709551616 = q * 256 * r := ⟨18446744073709551616 / (q * 256), by have := Nat.div_add_mod 18446744073709551616 (q * 256); rw [hd] at this; omega⟩
    have h1 := Int.emod_add_mul_ediv n 18446744073709551616
    rw [← e3] at h1
    generalize n / 18446744073709551616 = m at h1
    have h3 : ((18446744073709551616 : Nat) : Int) = ((q * 256 * r : Nat) : Int) := congrArg _ hr
    rw [Int.natCast_mul, Int.natCast_mul] at h3
    have h5 : (18446744073709551616 : Int) = (q : Int) * 256 * (r : Int) := h3
    have h2 : n = (u : Int) + (q : Int) * (256 * ((r : Int) * m)) := by
      rw [← h1, h5]
      simp only [Int.mul_assoc]
    have h4 : n / (q : Int) = (u : Int) / (q : Int) + 256 * ((r : Int) * m) := by
      rw [h2, Int.add_mul_ediv_left _ _ (by omega)]
    rw [h4, Int.add_mul_emod_self_left]
    rfl
  have hi : i = 0 ∨ i = 1 ∨ i = 2 ∨ i = 3 ∨ i = 4 ∨ i = 5 ∨ i = 6 ∨ i = 7 := by omega
  rcases hi with rfl | rfl | rfl | rfl | rfl | rfl | rfl | rfl
  all_goals exact key _ (by decide) (by decide)
theorem rm_enc (n : Int) : rm n 8 = enc8 (leB (u64N n) 8) := by
  apply List.ext_getElem?
  intro k
  by_cases hk : k < 8
  · rw [rm_get hk, if_pos hk, enc8_get (leB_get _ _ _ hk), byte_of n k hk]
  · rw [List.getElem?_eq_none (by simp [rm]; omega), List.getElem?_eq_none (by rw [enc8_length, leB_length]; omega)]
def NWRel (w0 : World) (R : Nat) (n : Int) (g : Nat) (v13 : Value) (wr : World) : Prop :=
  ∃ i : Nat, i + g = 8 ∧ v13 = .int .i64 i ∧ Blk wr R 184 (rm n i) ∧ Fr No w0 wr
theorem rm_zero (n : Int) : rm n 0 = [.int .u8 0, .int .u8 0, .int .u8 0, .int .u8 0, .int .u8 0, .int .u8 0, .int .u8 0, .int .u8 0] := rfl
attribute [irreducible] rm
set_option maxRecDepth 100000 in
set_option maxHeartbeats 2000000 in
theorem numW_int (p base : Nat) (v : Value) (l : Bs) (bad : Bool) (b o : Nat) (n : Int) (w : World) (h : PipeW w p base v l bad) (hc : w.cell? ⟨b, o, none⟩ = some (.int .i64 n)) (hb : b < w.heap.size) (hl : l.length ≤ 150000000000000) :
    Calls Try.prog 94 #[.pointer (some ⟨p, 0, none⟩), .pointer (some ⟨b, o, none⟩)] w fun e w' => (∃ u, e = .returned u) ∧ ∃ v', PipeW w' p base v' (l ++ leB (u64N n) 8) bad ∧ FrP p base w w' := by
  have H := Lib.hid h
  have HC := Lib.hid hc
  have HLB := Lib.hid hb
  have HL := Lib.hid hl
  obtain ⟨c0, c1, c2⟩ : w.cell? ⟨p, 0, none⟩ = some v ∧ w.cell? ⟨p, 1, none⟩ = some (.bool true) ∧ p < w.heap.size := ⟨h.blk.cell 0, h.blk.cell 1, h.blk.lt⟩
  clear h hl
  have B0 := Blk.new w 184 (rm n 0)
  have F0 := (Fr.refl No w).alloc (Obj.cells (rm n 0).toArray 184)
  have e0 : (rm n 0).toArray = #[.int .u8 0, .int .u8 0, .int .u8 0, .int .u8 0, .int .u8 0, .int .u8 0, .int .u8 0, .int .u8 0] := by rw [rm_zero]
  rw [e0] at B0 F0
  have HB0 := Lib.hid B0
  have HF0 := Lib.hid F0
  clear B0 F0 e0
  have HRp := Lib.hid (show w.heap.size ≠ p by omega)
  obtain ⟨R, hR⟩ : ∃ R, R = w.heap.size := ⟨_, rfl⟩
  rw [← hR] at HB0 HRp
  have HRw := Lib.hid (Nat.le_of_eq hR.symm)
  go_enter Try.func94, Try.ntmps94
  go_wp2
  rw [show (Value.pointer (some ⟨w.heap.size, 0, none⟩)) = Value.pointer (some ⟨R, 0, none⟩) by rw [hR]]
  clear hR
  go_loopg [13] 8 (fun g v13 wr => NWRel w R n g v13 wr)
  case atStart => exact ⟨0, by omega, rfl, HB0.out, HF0.out⟩
  case round =>
    clear HB0 HF0 c0 c1 c2 hc hb
    obtain ⟨i, hg, rfl, hB, hF⟩ := hrel
    have HB := Lib.hid hB
    have HF := Lib.hid hF
    have hi0 : (0 : Int) ≤ (i : Int) := by omega
    clear hB hF
    by_cases hi : i < 8
    · have hi1 : (i : Int) < 8 := by omega
      have m0 := HB.out.cell i
      have m1 := HB.out.frozen i
      have m2 := HB.out.lt
      rw [rm_get hi] at m0
      have n0 := (HF.out.cells b o HLB.out).trans HC.out
      have n1 : b < wr.heap.size := Nat.lt_of_lt_of_le HLB.out HF.out.size
      go_wp2
      go_roundg (8 - (i + 1))
      case measure => omega
      case rel =>
        refine ⟨i + 1, by omega, by go_num, ?_, HF.out.setCell (p := ⟨R, i, none⟩) (.inr HRw.out) _⟩
        have hb := HB.out.set_ i (.int .u8 (n / 2 ^ (8 * i) % 256))
        rw [← rm_set n i hi] at hb
        exact hb
    · have hi1 : (8 : Int) ≤ (i : Int) := by omega
      obtain rfl : i = 8 := by omega
      have HP := Lib.hid (H.out.fr0 HF.out)
      have c0 := HP.out.blk.cell 0
      have c2 := HP.out.blk.lt
      simp only [List.getElem?_cons_zero] at c0
      have hBB := HB.out
      rw [rm_enc] at hBB
      have HS := Lib.hid (Sl.of_blk hBB 1 8 (by rw [enc8_length, leB_length]))
      clear hBB
      go_wp2
      have hO : wr.drew.ownsRow base 5 1 v l.length (enc8 l) := own_fr0 HP.out.buf ((Fr.refl No wr).drew)
      refine wp_region_o [(0, 0), (1, 0), (2, 0), (3, 0), (4, 1), (5, 0), (6, 3), (7, 0), (8, 0), (9, 3)] (by kernel_rfl) (by kernel_rfl) ?_
      repeat (first
        | (apply wpO_pure rfl rfl; (focus (intro w'; go_simp; (try rfl); done)); try simp only [Act.put, List.setIfInBounds_toArray, List.set_cons_zero, List.set_cons_succ])
        | (apply wpO_read rfl rfl; (focus (intro w' hf' hs'; (try simp only [World.size_drew, World.cell?_drew, World.size_alloc, World.size_setCell] at hs'); go_simp; (try rfl); done)); try simp only [Act.put, List.setIfInBounds_toArray, List.set_cons_zero, List.set_cons_succ])
        | (apply wpO_skip (by decide) rfl rfl; try simp only [Act.put, List.setIfInBounds_toArray, List.set_cons_zero, List.set_cons_succ]))
      refine wpO_loud rfl fun K hK => ?_
      refine step_buf_append (by rfl) (.tmp 30) (.tmp 31) (by rfl) (base) (v) (l) (by rfl) (hO) (_) (8) (8) (_) (leB (u64N n) 8) (by rfl) (HS.out.drew) (by have := HL.out; omega) (HP.out.size) ?_
      intro v2 w2 ho_v2 hg_v2
      refine hK _ _ ?_
      clear hK K
      try simp only [Act.put, List.setIfInBounds_toArray, List.set_cons_zero, List.set_cons_succ]
      have B2 := Blk.u8 (HP.out.blk.drew) (U8.grown (Fr.refl (U8 base wr.drew) wr.drew) hO hg_v2) (by decide)
      have d0 := B2.cell 0
      have d1 := B2.frozen 0
      have d2 := B2.lt
      simp only [List.getElem?_cons_zero] at d0
      have HB2 := Lib.hid B2
      have HF2 := Lib.hid (FrP.grown (FrP.no (p := p) HF.out.drew) hO hg_v2)
      obtain ⟨l2, hl2⟩ : ∃ l2, l2 = l ++ leB (u64N n) 8 := ⟨_, rfl⟩
      rw [← hl2] at ho_v2
      have HL2 := Lib.hid hl2
      obtain ⟨A2, k2, rfl, _⟩ := own_shape ho_v2
      have HO2 := Lib.hid ho_v2
      clear B2 ho_v2 hg_v2 hO hl2
      repeat (first
        | (apply wpO_pure rfl rfl; (focus (intro w'; go_simp; (try rfl); done)); try simp only [Act.put, List.setIfInBounds_toArray, List.set_cons_zero, List.set_cons_succ])
        | (apply wpO_read rfl rfl; (focus (intro w' hf' hs'; (try simp only [World.size_drew, World.cell?_drew, World.size_alloc, World.size_setCell] at hs'); go_simp; (try rfl); done)); try simp only [Act.put, List.setIfInBounds_toArray, List.set_cons_zero, List.set_cons_succ])
        | (apply wpO_skip (by decide) rfl rfl; try simp only [Act.put, List.setIfInBounds_toArray, List.set_cons_zero, List.set_cons_succ]))
      refine wpO_loud rfl fun K hK => ?_
      go_simp
      refine hK _ _ ?_
      clear hK K
      repeat (first
        | (apply wpO_pure rfl rfl; (focus (intro w'; go_simp; (try rfl); done)); try simp only [Act.put, List.setIfInBounds_toArray, List.set_cons_zero, List.set_cons_succ])
        | (apply wpO_read rfl rfl; (focus (intro w' hf' hs'; (try simp only [World.size_drew, World.cell?_drew, World.size_alloc, World.size_setCell] at hs'); go_simp; (try rfl); done)); try simp only [Act.put, List.setIfInBounds_toArray, List.set_cons_zero, List.set_cons_succ])
        | (apply wpO_skip (by decide) rfl rfl; try simp only [Act.put, List.setIfInBounds_toArray, List.set_cons_zero, List.set_cons_succ]))
      refine wpO_nil ?_
      go_wp2
      exact bodyPost_ret (v := .tuple #[]) (by simp [results, Try.results94, go_sem]) rfl ⟨⟨_, rfl⟩, _, by rw [← HL2.out]; exact pipe_set HB2.out HO2.out (Nat.le_trans H.out.size HF2.out.size), HF2.out.set 0 _⟩
set_option maxRecDepth 100000 in
set_option maxHeartbeats 2000000 in
theorem numW_i64 (p base : Nat) (v : Value) (l : Bs) (bad : Bool) (b o : Nat) (n : Int) (w : World) (h : PipeW w p base v l bad) (hc : w.cell? ⟨b, o, none⟩ = some (.int .i64 n)) (hb : b < w.heap.size) (hl : l.length ≤ 150000000000000) :
    Calls Try.prog 110 #[.pointer (some ⟨p, 0, none⟩), .pointer (some ⟨b, o, none⟩)] w fun e w' => (∃ u, e = .returned u) ∧ ∃ v', PipeW w' p base v' (l ++ leB (u64N n) 8) bad ∧ FrP p base w w' := by
  have H := Lib.hid h
  have HC := Lib.hid hc
  have HLB := Lib.hid hb
  have HL := Lib.hid hl
  obtain ⟨c0, c1, c2⟩ : w.cell? ⟨p, 0, none⟩ = some v ∧ w.cell? ⟨p, 1, none⟩ = some (.bool true) ∧ p < w.heap.size := ⟨h.blk.cell 0, h.blk.cell 1, h.blk.lt⟩
  clear h hl
  have B0 := Blk.new w 184 (rm n 0)
  have F0 := (Fr.refl No w).alloc (Obj.cells (rm n 0).toArray 184)
  have e0 : (rm n 0).toArray = #[.int .u8 0, .int .u8 0, .int .u8 0, .int .u8 0, .int .u8 0, .int .u8 0, .int .u8 0, .int .u8 0] := by rw [rm_zero]
  rw [e0] at B0 F0
  have HB0 := Lib.hid B0
  have HF0 := Lib.hid F0
  clear B0 F0 e0
  have HRp := Lib.hid (show w.heap.size ≠ p by omega)
  obtain ⟨R, hR⟩ : ∃ R, R = w.heap.size := ⟨_, rfl⟩
  rw [← hR] at HB0 HRp
  have HRw := Lib.hid (Nat.le_of_eq hR.symm)
  go_enter Try.func110, Try.ntmps110
  go_wp2
  rw [show (Value.pointer (some ⟨w.heap.size, 0, none⟩)) = Value.pointer (some ⟨R, 0, none⟩) by rw [hR]]
  clear hR
  go_loopg [13] 8 (fun g v13 wr => NWRel w R n g v13 wr)
  case atStart => exact ⟨0, by omega, rfl, HB0.out, HF0.out⟩
  case round =>
    clear HB0 HF0 c0 c1 c2 hc hb
    obtain ⟨i, hg, rfl, hB, hF⟩ := hrel
    have HB := Lib.hid hB
    have HF := Lib.hid hF
    have hi0 : (0 : Int) ≤ (i : Int) := by omega
    clear hB hF
    by_cases hi : i < 8
    · have hi1 : (i : Int) < 8 := by omega
      have m0 := HB.out.cell i
      have m1 := HB.out.frozen i
      have m2 := HB.out.lt
      rw [rm_get hi] at m0
      have n0 := (HF.out.cells b o HLB.out).trans HC.out
      have n1 : b < wr.heap.size := Nat.lt_of_lt_of_le HLB.out HF.out.size
      go_wp2
      go_roundg (8 - (i + 1))
      case measure => omega
      case rel =>
        refine ⟨i + 1, by omega, by go_num, ?_, HF.out.setCell (p := ⟨R, i, none⟩) (.inr HRw.out) _⟩
        have hb := HB.out.set_ i (.int .u8 (n / 2 ^ (8 * i) % 256))
        rw [← rm_set n i hi] at hb
        exact hb
    · have hi1 : (8 : Int) ≤ (i : Int) := by omega
      obtain rfl : i = 8 := by omega
      have HP := Lib.hid (H.out.fr0 HF.out)
      have c0 := HP.out.blk.cell 0
      have c2 := HP.out.blk.lt
      simp only [List.getElem?_cons_zero] at c0
      have hBB := HB.out
      rw [rm_enc] at hBB
      have HS := Lib.hid (Sl.of_blk hBB 1 8 (by rw [enc8_length, leB_length]))
      clear hBB
      go_wp2
      have hO : wr.drew.ownsRow base 5 1 v l.length (enc8 l) := own_fr0 HP.out.buf ((Fr.refl No wr).drew)
      refine wp_region_o [(0, 0), (1, 0), (2, 0), (3, 0), (4, 1), (5, 0), (6, 3), (7, 0), (8, 0), (9, 3)] (by kernel_rfl) (by kernel_rfl) ?_
      repeat (first
        | (apply wpO_pure rfl rfl; (focus (intro w'; go_simp; (try rfl); done)); try simp only [Act.put, List.setIfInBounds_toArray, List.set_cons_zero, List.set_cons_succ])
        | (apply wpO_read rfl rfl; (focus (intro w' hf' hs'; (try simp only [World.size_drew, World.cell?_drew, World.size_alloc, World.size_setCell] at hs'); go_simp; (try rfl); done)); try simp only [Act.put, List.setIfInBounds_toArray, List.set_cons_zero, List.set_cons_succ])
        | (apply wpO_skip (by decide) rfl rfl; try simp only [Act.put, List.setIfInBounds_toArray, List.set_cons_zero, List.set_cons_succ]))
      refine wpO_loud rfl fun K hK => ?_
      refine step_buf_append (by rfl) (.tmp 30) (.tmp 31) (by rfl) (base) (v) (l) (by rfl) (hO) (_) (8) (8) (_) (leB (u64N n) 8) (by rfl) (HS.out.drew) (by have := HL.out; omega) (HP.out.size) ?_
      intro v2 w2 ho_v2 hg_v2
      refine hK _ _ ?_
      clear hK K
      try simp only [Act.put, List.setIfInBounds_toArray, List.set_cons_zero, List.set_cons_succ]
      have B2 := Blk.u8 (HP.out.blk.drew) (U8.grown (Fr.refl (U8 base wr.drew) wr.drew) hO hg_v2) (by decide)
      have d0 := B2.cell 0
      have d1 := B2.frozen 0
      have d2 := B2.lt
      simp only [List.getElem?_cons_zero] at d0
      have HB2 := Lib.hid B2
      have HF2 := Lib.hid (FrP.grown (FrP.no (p := p) HF.out.drew) hO hg_v2)
      obtain ⟨l2, hl2⟩ : ∃ l2, l2 = l ++ leB (u64N n) 8 := ⟨_, rfl⟩
      rw [← hl2] at ho_v2
      have HL2 := Lib.hid hl2
      obtain ⟨A2, k2, rfl, _⟩ := own_shape ho_v2
      have HO2 := Lib.hid ho_v2
      clear B2 ho_v2 hg_v2 hO hl2
      repeat (first
        | (apply wpO_pure rfl rfl; (focus (intro w'; go_simp; (try rfl); done)); try simp only [Act.put, List.setIfInBounds_toArray, List.set_cons_zero, List.set_cons_succ])
        | (apply wpO_read rfl rfl; (focus (intro w' hf' hs'; (try simp only [World.size_drew, World.cell?_drew, World.size_alloc, World.size_setCell] at hs'); go_simp; (try rfl); done)); try simp only [Act.put, List.setIfInBounds_toArray, List.set_cons_zero, List.set_cons_succ])
        | (apply wpO_skip (by decide) rfl rfl; try simp only [Act.put, List.setIfInBounds_toArray, List.set_cons_zero, List.set_cons_succ]))
      refine wpO_loud rfl fun K hK => ?_
      go_simp
      refine hK _ _ ?_
      clear hK K
      repeat (first
        | (apply wpO_pure rfl rfl; (focus (intro w'; go_simp; (try rfl); done)); try simp only [Act.put, List.setIfInBounds_toArray, List.set_cons_zero, List.set_cons_succ])
        | (apply wpO_read rfl rfl; (focus (intro w' hf' hs'; (try simp only [World.size_drew, World.cell?_drew, World.size_alloc, World.size_setCell] at hs'); go_simp; (try rfl); done)); try simp only [Act.put, List.setIfInBounds_toArray, List.set_cons_zero, List.set_cons_succ])
        | (apply wpO_skip (by decide) rfl rfl; try simp only [Act.put, List.setIfInBounds_toArray, List.set_cons_zero, List.set_cons_succ]))
      refine wpO_nil ?_
      go_wp2
      exact bodyPost_ret (v := .tuple #[]) (by simp [results, Try.results110, go_sem]) rfl ⟨⟨_, rfl⟩, _, by rw [← HL2.out]; exact pipe_set HB2.out HO2.out (Nat.le_trans H.out.size HF2.out.size), HF2.out.set 0 _⟩
end Go.Proofs.Ytegogggemmcgdaa

/- codec: a number that is read. -/
namespace Go.Proofs.Ytegogggemmcgdaa
open Go Go.RowKit Go.Proofs

/-- what reading stands at: can it not be? what is left -/
abbrev RS := Bool × Bs
def numS (s : RS) (n : Int) : RS × Int := if s.1 || decide (s.2.length < 8) then ((true, s.2), n) else ((false, s.2.drop 8), IntKind.i64.wrap ((leN (s.2.take 8) : Nat) : Int))
/-- a pipe that is read; its bytes lie below base -/
def PipeR (w : World) (p base : Nat) (s : RS) : Prop :=
  ∃ A c e, Blk w p 109 [.slice A s.2.length c, .bool false, .bool s.1] ∧ Sl w e 1 A s.2.length (enc8 s.2) ∧ (∀ a, A = some a → a.block < base) ∧ s.2.length ≤ c ∧ s.2.length ≤ maxLen
theorem Sl.under {w w' : World} {base n : Nat} {e : TypeId} {A : Option Addr} {xs : List Value} {sz : Nat} {S : Nat → Prop} (h : Sl w e sz A n xs) (hA : ∀ a, A = some a → a.block < base) (hf : Fr S w w') (hS : ∀ k, S k → base ≤ k) : Sl w' e sz A n xs := by
  refine ⟨h.1, fun hn => ?_⟩
  obtain ⟨b1, o1, cur, fr, e1, hb1, hx⟩ := h.2 hn
  have hb := hA _ e1
  exact ⟨b1, o1, cur, fr, e1, (hf.block b1 (lt_of_heap hb1) (fun hk => by have := hS _ hk; simp only at hb; omega)).trans hb1, hx⟩
theorem PipeR.fr {w w' : World} {p base : Nat} {s : RS} {S : Nat → Prop} (h : PipeR w p base s) (hf : Fr S w w') (hp : ¬ S p) (hS : ∀ k, S k → base ≤ k) : PipeR w' p base s := by
  obtain ⟨A, c, e, hB, hs, hA, hc, hm⟩ := h
  exact ⟨A, c, e, hB.fr hf hp, hs.under hA hf hS, hA, hc, hm⟩
theorem PipeR.fr0 {w w' : World} {p base : Nat} {s : RS} (h : PipeR w p base s) (hf : Fr No w w') : PipeR w' p base s := h.fr hf (fun h => h) fun _ h => h.elim
def Fr2 (p b : Nat) (w w' : World) : Prop := Fr (fun i => i = p ∨ i = b) w w'
set_option maxRecDepth 100000 in
set_option maxHeartbeats 2000000 in
theorem numRB_int (p base b o : Nat) (s : RS) (w : World) (h : PipeR w p base s) (hp : base ≤ p) (hs : (s.1 || decide (s.2.length < 8)) = true) :
    Calls Try.prog 94 #[.pointer (some ⟨p, 0, none⟩), .pointer (some ⟨b, o, none⟩)] w fun e w' => (∃ u, e = .returned u) ∧ PipeR w' p base (true, s.2) ∧ Fr (fun i => i = p) w w' := by
  obtain ⟨bd, rest⟩ := s
  obtain ⟨A, c, e, hB, hsl, hA, hcap, hm⟩ := h
  have HB := Lib.hid hB
  have c0 := HB.out.cell 0
  have c1 := HB.out.cell 1
  have c2 := HB.out.cell 2
  have c3 := HB.out.frozens
  have c4 := hB.lt
  simp only [List.getElem?_cons_zero, List.getElem?_cons_succ] at c0 c1 c2
  have HS := Lib.hid hsl
  have HA := Lib.hid hA
  have HC := Lib.hid hcap
  have HM := Lib.hid hm
  have hl0 : (0 : Int) ≤ (rest.length : Int) := by omega
  have fin : ∀ w', w' = (w.setCell ⟨p, 2, none⟩ (.bool true)).alloc (Obj.cells #[.int .u8 0, .int .u8 0, .int .u8 0, .int .u8 0, .int .u8 0, .int .u8 0, .int .u8 0, .int .u8 0] 184) → PipeR w' p base (true, rest) ∧ Fr (fun i => i = p) w w' := by
    rintro w' rfl
    have F := ((Fr.refl (fun i => i = p) w).setCell (p := ⟨p, 2, none⟩) (.inl rfl) (.bool true)).alloc (Obj.cells #[.int .u8 0, .int .u8 0, .int .u8 0, .int .u8 0, .int .u8 0, .int .u8 0, .int .u8 0, .int .u8 0] 184)
    exact ⟨⟨A, c, e, (HB.out.set_ 2 (.bool true)).alloc _, HS.out.under HA.out F (fun k hk => hk ▸ hp), HA.out, HC.out, HM.out⟩, F⟩
  have FIN := Lib.hid fin
  clear hB hsl hA hcap hm fin
  cases bd
  · have hlt : (rest.length : Int) < 8 := by simp at hs; omega
    clear hs
    go_enter Try.func94, Try.ntmps94
    go_wp2
    exact bodyPost_ret (v := .tuple #[]) (by simp [results, Try.results94, go_sem]) rfl ⟨⟨_, rfl⟩, FIN.out _ rfl⟩
  · clear hs
    go_enter Try.func94, Try.ntmps94
    go_wp2
    exact bodyPost_ret (v := .tuple #[]) (by simp [results, Try.results94, go_sem]) rfl ⟨⟨_, rfl⟩, FIN.out _ rfl⟩
set_option maxRecDepth 100000 in
set_option maxHeartbeats 2000000 in
theorem numRB_i64 (p base b o : Nat) (s : RS) (w : World) (h : PipeR w p base s) (hp : base ≤ p) (hs : (s.1 || decide (s.2.length < 8)) = true) :
    Calls Try.prog 110 #[.pointer (some ⟨p, 0, none⟩), .pointer (some ⟨b, o, none⟩)] w fun e w' => (∃ u, e = .returned u) ∧ PipeR w' p base (true, s.2) ∧ Fr (fun i => i = p) w w' := by
  obtain ⟨bd, rest⟩ := s
  obtain ⟨A, c, e, hB, hsl, hA, hcap, hm⟩ := h
  have HB := Lib.hid hB
  have c0 := HB.out.cell 0
  have c1 := HB.out.cell 1
  have c2 := HB.out.cell 2
  have c3 := HB.out.frozens
  have c4 := hB.lt
  simp only [List.getElem?_cons_zero, List.getElem?_cons_succ] at c0 c1 c2
  have HS := Lib.hid hsl
  have HA := Lib.hid hA
  have HC := Lib.hid hcap
  have HM := Lib.hid hm
  have hl0 : (0 : Int) ≤ (rest.length : Int) := by omega
  have fin : ∀ w', w' = (w.setCell ⟨p, 2, none⟩ (.bool true)).alloc (Obj.cells #[.int .u8 0, .int .u8 0, .int .u8 0, .int .u8 0, .int .u8 0, .int .u8 0, .int .u8 0, .int .u8 0] 184) → PipeR w' p base (true, rest) ∧ Fr (fun i => i = p) w w' := by
    rintro w' rfl
    have F := ((Fr.refl (fun i => i = p) w).setCell (p := ⟨p, 2, none⟩) (.inl rfl) (.bool true)).alloc (Obj.cells #[.int .u8 0, .int .u8 0, .int .u8 0, .int .u8 0, .int .u8 0, .int .u8 0, .int .u8 0, .int .u8 0] 184)
    exact ⟨⟨A, c, e, (HB.out.set_ 2 (.bool true)).alloc _, HS.out.under HA.out F (fun k hk => hk ▸ hp), HA.out, HC.out, HM.out⟩, F⟩
  have FIN := Lib.hid fin
  clear hB hsl hA hcap hm fin
  cases bd
  · have hlt : (rest.length : Int) < 8 := by simp at hs; omega
    clear hs
    go_enter Try.func110, Try.ntmps110
    go_wp2
    exact bodyPost_ret (v := .tuple #[]) (by simp [results, Try.results110, go_sem]) rfl ⟨⟨_, rfl⟩, FIN.out _ rfl⟩
  · clear hs
    go_enter Try.func110, Try.ntmps110
    go_wp2
    exact bodyPost_ret (v := .tuple #[]) (by simp [results, Try.results110, go_sem]) rfl ⟨⟨_, rfl⟩, FIN.out _ rfl⟩
theorem leN_take {l : Bs} {i : Nat} {b : UInt8} (h : l[i]? = some b) : leN (l.take (i + 1)) = leN (l.take i) + b.toNat * 256 ^ i := by
  induction l generalizing i with
  | nil => simp at h
  | cons a l ih =>
    cases i with
    | zero =>
      simp only [List.getElem?_cons_zero, Option.some.injEq] at h
      subst h
      simp [leN]
    | succ i =>
      simp only [List.getElem?_cons_succ] at h
      simp only [List.take_succ_cons, leN, ih h, Nat.pow_succ]
      have e : b.toNat * (256 ^ i * 256) = 256 * (b.toNat * 256 ^ i) := by rw [← Nat.mul_assoc, Nat.mul_comm]
      rw [e]
      omega
theorem shl_or (u b i : Nat) (hi : i < 8) (hu : u < 256 ^ i) (hb : b < 256) : bits .or .u64 (u : Int) (((b * 256 ^ i : Nat)) : Int) = ((u + b * 256 ^ i : Nat) : Int) := by
  have e : 256 ^ i = 2 ^ (8 * i) := by rw [Nat.pow_mul]
  have hlt : b * 256 ^ i < 18446744073709551616 := by
    have h1 : 256 ^ i ≤ 256 ^ 7 := Nat.pow_le_pow_right (by omega) (by omega)
    have h2 : b * 256 ^ i ≤ 255 * 256 ^ 7 := Nat.mul_le_mul (by omega) h1
    omega
  have hul : u < 18446744073709551616 := by
    have h1 : 256 ^ i ≤ 256 ^ 7 := Nat.pow_le_pow_right (by omega) (by omega)
    omega
  rw [u64_or_nat _ _ hul hlt, Nat.or_comm, Nat.mul_comm, e]
  rw [e] at hu
  rw [← Nat.two_pow_add_eq_or_of_lt hu, Nat.add_comm]
theorem shl_form (b i : Nat) (hi : i < 8) (hb : b < 256) : IntKind.u64.wrap ((b : Int) * 2 ^ (8 * i)) = ((b * 256 ^ i : Nat) : Int) := by
  have e : ((2 ^ (8 * i) : Nat) : Int) = (2 : Int) ^ (8 * i) := Int.natCast_pow 2 (8 * i)
  have e2 : 2 ^ (8 * i) = 256 ^ i := by rw [Nat.pow_mul]
  rw [← e, e2, ← Int.natCast_mul]
  have hlt : b * 256 ^ i < 18446744073709551616 := by
    have h1 : 256 ^ i ≤ 256 ^ 7 := Nat.pow_le_pow_right (by omega) (by omega)
    have h2 : b * 256 ^ i ≤ 255 * 256 ^ 7 := Nat.mul_le_mul (by omega) h1
    omega
  exact u64_in _ hlt
theorem room_at (a b c d e f g h : Value) (P : List Value) (hP : P = [a, b, c, d, e, f, g, h]) (i : Nat) (x : Value) (hx : P[i]? = some x) (w : World) : (Instr.index 184 (.agg #[a, b, c, d, e, f, g, h]) (.int .i64 (i : Int))).run Try.prog w = .ok x w := by
  subst hP
  have key : ∀ (a b c d e f g h : Value) (w : World),
      ((Instr.index 184 (.agg #[a, b, c, d, e, f, g, h]) (.int .i64 0)).run Try.prog w = .ok a w ∧ (Instr.index 184 (.agg #[a, b, c, d, e, f, g, h]) (.int .i64 1)).run Try.prog w = .ok b w) ∧
      ((Instr.index 184 (.agg #[a, b, c, d, e, f, g, h]) (.int .i64 2)).run Try.prog w = .ok c w ∧ (Instr.index 184 (.agg #[a, b, c, d, e, f, g, h]) (.int .i64 3)).run Try.prog w = .ok d w) ∧
      ((Instr.index 184 (.agg #[a, b, c, d, e, f, g, h]) (.int .i64 4)).run Try.prog w = .ok e w ∧ (Instr.index 184 (.agg #[a, b, c, d, e, f, g, h]) (.int .i64 5)).run Try.prog w = .ok f w) ∧
      ((Instr.index 184 (.agg #[a, b, c, d, e, f, g, h]) (.int .i64 6)).run Try.prog w = .ok g w ∧ (Instr.index 184 (.agg #[a, b, c, d, e, f, g, h]) (.int .i64 7)).run Try.prog w = .ok h w) :=
    fun _ _ _ _ _ _ _ _ _ => ⟨⟨by kernel_rfl, by kernel_rfl⟩, ⟨by kernel_rfl, by kernel_rfl⟩, ⟨by kernel_rfl, by kernel_rfl⟩, by kernel_rfl, by kernel_rfl⟩
  obtain ⟨⟨k0, k1⟩, ⟨k2, k3⟩, ⟨k4, k5⟩, k6, k7⟩ := key a b c d e f g h w
  match i, hx with
  | 0, hx => simp only [List.getElem?_cons_zero, Option.some.injEq] at hx; subst hx; exact k0
  | 1, hx => simp only [List.getElem?_cons_zero, List.getElem?_cons_succ, Option.some.injEq] at hx; subst hx; exact k1
  | 2, hx => simp only [List.getElem?_cons_zero, List.getElem?_cons_succ, Option.some.injEq] at hx; subst hx; exact k2
  | 3, hx => simp only [List.getElem?_cons_zero, List.getElem?_cons_succ, Option.some.injEq] at hx; subst hx; exact k3
  | 4, hx => simp only [List.getElem?_cons_zero, List.getElem?_cons_succ, Option.some.injEq] at hx; subst hx; exact k4
  | 5, hx => simp only [List.getElem?_cons_zero, List.getElem?_cons_succ, Option.some.injEq] at hx; subst hx; exact k5
  | 6, hx => simp only [List.getElem?_cons_zero, List.getElem?_cons_succ, Option.some.injEq] at hx; subst hx; exact k6
  | 7, hx => simp only [List.getElem?_cons_zero, List.getElem?_cons_succ, Option.some.injEq] at hx; subst hx; exact k7
  | k + 8, hx => simp at hx
theorem list8 {α : Type} {l : List α} (h : l.length = 8) : ∃ a b c d e f g i, l = [a, b, c, d, e, f, g, i] := by
  match l, h with
  | [a, b, c, d, e, f, g, i], _ => exact ⟨a, b, c, d, e, f, g, i, rfl⟩
theorem setRow_blk {w : World} {g : Nat} {t : TypeId} {cs ds : List Value} (h : Blk w g t cs) : Blk (w.setRow g ds.toArray) g t ds := setRow_heap w g cs.toArray ds.toArray t (0, 0) h
theorem setRow_far {w : World} {g k : Nat} {r : Array Value} {t : TypeId} {cs : List Value} (h : Blk w k t cs) (hne : k ≠ g) : Blk (w.setRow g r) k t cs := (setRow_other w g k r hne).trans h
theorem Fr.setRow {S : Nat → Prop} {a w : World} {g : Nat} {r : Array Value} (h : Fr S a w) (hg : S g ∨ a.heap.size ≤ g) : Fr S a (w.setRow g r) :=
  ⟨h.os, h.tape, h.output, by simpa using h.size, fun i hi hn => (setRow_other w g i r (by
    rintro rfl
    rcases hg with h1 | h1
    · exact hn h1
    · omega)).trans (h.block i hi hn)⟩
set_option maxRecDepth 100000 in
theorem room_copy {w : World} {R : Nat} {cs : List Value} {g oo c : Nat} {e : TypeId} {rest : Bs} (hR : Blk w R 184 cs) (hcs : cs.length = 8) (hs : Sl w e 1 (some ⟨g, oo, none⟩) rest.length (enc8 rest)) (h8 : 8 ≤ rest.length) (ty : TypeId) :
    (Builtin.copy_ #[50, 50] ty #[.slice (some ⟨R, 0, none⟩) 8 8, .slice (some ⟨g, oo, none⟩) rest.length c]).run Try.prog w = .ok (goInt 8) (w.setRow R (enc8 (rest.take 8)).toArray) := by
  obtain ⟨b, o, hA, _, hc, _⟩ := hs.cells (by omega)
  have hA := Option.some.inj hA
  injection hA with h1 h2
  subst h1 h2
  have hl : (enc8 (rest.take 8)).length = 8 := by rw [enc8_length, List.length_take]; omega
  obtain ⟨i, hi, hz, hsz, hb⟩ := info_parts u8_info
  have := run_copy_row Try.prog w 50 50 ty 5 R 0 8 8 ⟨g, oo, none⟩ rest.length c cs.toArray 184 (enc8 (rest.take 8)) bytes_und (by rw [hi]; simp [hsz]) hR (by rw [hl]; exact (Nat.min_eq_right h8).symm)
    (fun j v hv => by
      rw [add_off]
      refine hc j v ?_
      have hj := (List.getElem?_eq_some_iff.1 hv).1
      rw [hl] at hj
      rw [enc8, List.map_take, List.getElem?_take_of_lt hj] at hv
      exact hv) (by rw [hl]; simp [hcs]) (enc8_one _)
  rw [hl] at this
  have e1 : (List.take 0 cs.toArray.toList ++ enc8 (rest.take 8) ++ List.drop (0 + 8) cs.toArray.toList) = enc8 (rest.take 8) := by
    rw [List.take_zero, List.nil_append, List.drop_of_length_le (by rw [List.toList_toArray, hcs]; omega), List.append_nil]
  rw [e1] at this
  exact this
theorem cutA_block {a a' : Addr} {lo c : Nat} (h : cutA (some a) lo c = some a') : a'.block = a.block := by
  rw [cutA_def] at h
  split at h
  · rw [Option.some.inj h]
  · have := Option.some.inj h
    rw [← this]
    unfold Addr.add
    split <;> rfl
def NRRel (w0 : World) (P : Bs) (g : Nat) (v6 v69 : Value) (wr : World) : Prop :=
  ∃ (i u : Nat), i + g = 8 ∧ v69 = .int .i64 i ∧ v6 = .int .u64 u ∧ u = leN (P.take i) ∧ wr = w0
theorem fr2_of {w w' : World} {p R b : Nat} (h : Fr (fun i => i = p ∨ i = R) w w') (hR : w.heap.size ≤ R) (o : Nat) (v : Value) : Fr2 p b w (w'.setCell ⟨b, o, none⟩ v) :=
  (Fr.step (S := fun i => i = p ∨ i = b) (Fr.refl _ w) h (fun i hi => by
    rcases hi with e | e
    · exact .inl (.inl e)
    · exact .inr (by omega))).setCell (p := ⟨b, o, none⟩) (.inl (.inr rfl)) v
set_option maxRecDepth 100000 in
set_option maxHeartbeats 4000000 in
theorem numRO_int (p base b o : Nat) (rest : Bs) (t : TypeId) (cs : List Value) (n : Int) (w : World) (h : PipeR w p base (false, rest)) (hp : base ≤ p) (hb : base ≤ b) (hl8 : 8 ≤ rest.length) (hB : Blk w b t cs) (hc : cs[o]? = some (.int .i64 n)) (hbp : b ≠ p) :
    Calls Try.prog 94 #[.pointer (some ⟨p, 0, none⟩), .pointer (some ⟨b, o, none⟩)] w fun e w' => (∃ u, e = .returned u) ∧ PipeR w' p base (false, rest.drop 8) ∧ Blk w' b t (cs.set o (.int .i64 (IntKind.i64.wrap ((leN (rest.take 8) : Nat) : Int)))) ∧ Fr2 p b w w' := by
  obtain ⟨A, c, e, hBp, hsl, hA, hcap, hm⟩ := h
  simp only at hBp hsl hA hcap hm
  obtain ⟨g, oo, hAg, hgl, hcells, _⟩ := hsl.cells (by omega)
  subst hAg
  have HBp := Lib.hid hBp
  have HB := Lib.hid hB
  have HS := Lib.hid hsl
  have HA := Lib.hid hA
  have HC := Lib.hid hcap
  have HM := Lib.hid hm
  have c0 := hBp.cell 0
  have c1 := hBp.cell 1
  have c2 := hBp.cell 2
  have c3 := hBp.frozens
  have c4 := hBp.lt
  simp only [List.getElem?_cons_zero, List.getElem?_cons_succ] at c0 c1 c2
  have hl0 : (8 : Int) ≤ (rest.length : Int) := by omega
  have hln : ¬ (rest.length : Int) < 8 := by omega
  clear hBp hB hsl hA hcap hm hcells
  go_enter Try.func94, Try.ntmps94
  go_wp2
  have F1 := ((Fr.refl (fun i => i = p) w).setCell (p := ⟨p, 2, none⟩) (.inl rfl) (.bool false)).alloc (Obj.cells #[.int .u8 0, .int .u8 0, .int .u8 0, .int .u8 0, .int .u8 0, .int .u8 0, .int .u8 0, .int .u8 0] 184)
  have P1 := (HBp.out.set_ 2 (.bool false)).alloc (Obj.cells #[.int .u8 0, .int .u8 0, .int .u8 0, .int .u8 0, .int .u8 0, .int .u8 0, .int .u8 0, .int .u8 0] 184)
  have T1 := (HB.out.far (p := ⟨p, 2, none⟩) hbp (.bool false)).alloc (Obj.cells #[.int .u8 0, .int .u8 0, .int .u8 0, .int .u8 0, .int .u8 0, .int .u8 0, .int .u8 0, .int .u8 0] 184)
  have R1 := Blk.new (w.setCell ⟨p, 2, none⟩ (.bool false)) 184 [.int .u8 0, .int .u8 0, .int .u8 0, .int .u8 0, .int .u8 0, .int .u8 0, .int .u8 0, .int .u8 0]
  rw [show (w.setCell ⟨p, 2, none⟩ (.bool false)).heap.size = w.heap.size by simp [World.setCell]] at R1
  obtain ⟨R, hR⟩ : ∃ R, R = w.heap.size := ⟨_, rfl⟩
  rw [← hR] at R1
  rw [show (Value.pointer (some ⟨w.heap.size, 0, none⟩)) = Value.pointer (some ⟨R, 0, none⟩) by rw [hR]]
  have hRb : b ≠ R := by have := HB.out.lt; omega
  have hRp : p ≠ R := by omega
  have HRw := Lib.hid (Nat.le_of_eq hR.symm)
  clear c0 c1 c2 c3 c4 hR
  generalize ((w.setCell ⟨p, 2, none⟩ (.bool false)).alloc (Obj.cells #[.int .u8 0, .int .u8 0, .int .u8 0, .int .u8 0, .int .u8 0, .int .u8 0, .int .u8 0, .int .u8 0] 184)) = W1 at F1 P1 T1 R1
  have S1 := HS.out.under HA.out F1 (fun k hk => hk ▸ hp)
  have hcp := room_copy (c := c) R1.drew rfl S1.drew hl8
  have S2 := S1.drew.under HA.out ((Fr.refl (fun i => i = R) W1.drew).setRow (r := (enc8 (rest.take 8)).toArray) (.inl rfl)) (fun k hk => by have := HRw.out; have := HB.out.lt; omega)
  have R2 := setRow_blk (ds := enc8 (rest.take 8)) R1.drew
  have P2 := setRow_far (r := (enc8 (rest.take 8)).toArray) P1.drew hRp
  have T2 := setRow_far (r := (enc8 (rest.take 8)).toArray) T1.drew hRb
  have F2 := (Fr.mono (S' := fun i => i = p ∨ i = R) F1.drew (fun k _ hk => .inl hk)).setRow (g := R) (r := (enc8 (rest.take 8)).toArray) (.inl (.inr rfl))
  have c0 := P1.cell 0
  have c4 := P1.lt
  simp only [List.getElem?_cons_zero, List.set_cons_succ, List.set_cons_zero] at c0
  refine wp_region_o [(0, 0), (1, 0), (2, 0), (3, 0), (4, 1), (5, 3)] (by kernel_rfl) (by kernel_rfl) ?_
  repeat (first
    | (apply wpO_pure rfl rfl; (focus (intro w'; go_simp; (try rfl); done)); try simp only [Act.put, List.setIfInBounds_toArray, List.set_cons_zero, List.set_cons_succ])
    | (apply wpO_read rfl rfl; (focus (intro w' hf' hs'; (try simp only [World.size_drew, World.cell?_drew, World.size_alloc, World.size_setCell] at hs'); go_simp; (try rfl); done)); try simp only [Act.put, List.setIfInBounds_toArray, List.set_cons_zero, List.set_cons_succ])
    | (apply wpO_skip (by decide) rfl rfl; try simp only [Act.put, List.setIfInBounds_toArray, List.set_cons_zero, List.set_cons_succ]))
  refine wpO_loud rfl fun K hK => ?_
  go_simp
  refine hK _ _ ?_
  clear hK K
  repeat (first
    | (apply wpO_pure rfl rfl; (focus (intro w'; go_simp; (try rfl); done)); try simp only [Act.put, List.setIfInBounds_toArray, List.set_cons_zero, List.set_cons_succ])
    | (apply wpO_read rfl rfl; (focus (intro w' hf' hs'; (try simp only [World.size_drew, World.cell?_drew, World.size_alloc, World.size_setCell] at hs'); go_simp; (try rfl); done)); try simp only [Act.put, List.setIfInBounds_toArray, List.set_cons_zero, List.set_cons_succ])
    | (apply wpO_skip (by decide) rfl rfl; try simp only [Act.put, List.setIfInBounds_toArray, List.set_cons_zero, List.set_cons_succ]))
  refine wpO_nil ?_
  clear c0 c4 hcp S1 R1 P1 T1 F1
  generalize W1.drew.setRow R (enc8 (rest.take 8)).toArray = W2 at S2 R2 P2 T2 F2
  obtain ⟨P, hP⟩ : ∃ P, P = rest.take 8 := ⟨_, rfl⟩
  obtain ⟨q0, q1, q2, q3, q4, q5, q6, q7, hQ⟩ := list8 (l := P) (by rw [hP, List.length_take]; omega)
  rw [← hP] at R2
  have HP8 := Lib.hid hQ
  have HPR := Lib.hid hP
  have hx8 : ∀ (i : Nat) (x : UInt8), P[i]? = some x → ∀ w, (Instr.index 184 (.agg #[.int .u8 (q0.toNat : Int), .int .u8 (q1.toNat : Int), .int .u8 (q2.toNat : Int), .int .u8 (q3.toNat : Int), .int .u8 (q4.toNat : Int), .int .u8 (q5.toNat : Int), .int .u8 (q6.toNat : Int), .int .u8 (q7.toNat : Int)]) (.int .i64 (i : Int))).run Try.prog w = .ok (.int .u8 (x.toNat : Int)) w :=
    fun i x hx w => room_at _ _ _ _ _ _ _ _ (enc8 P) (by rw [hQ]; rfl) i _ (enc8_get hx) w
  have HX8 := Lib.hid hx8
  rw [hQ] at R2
  have d0 := R2.cell 0
  have d1 := R2.cell 1
  have d2 := R2.cell 2
  have d3 := R2.cell 3
  have d4 := R2.cell 4
  have d5 := R2.cell 5
  have d6 := R2.cell 6
  have d7 := R2.cell 7
  simp only [enc8, List.map_cons, List.map_nil, List.getElem?_cons_zero, List.getElem?_cons_succ] at d0 d1 d2 d3 d4 d5 d6 d7
  have d8 := R2.lt
  obtain ⟨r8, hr8⟩ : ∃ r8, r8 = rest.drop 8 := ⟨_, rfl⟩
  have hr8l : rest.length - 8 = r8.length := by rw [hr8, List.length_drop]
  have hs8 : ∀ w, (Instr.slice 50 (.slice (some ⟨g, oo, none⟩) rest.length c) (some (.int .i64 8)) none none).run Try.prog w = .ok (.slice (cutA (some ⟨g, oo, none⟩) 8 c) r8.length (c - 8)) w := fun w => by
    have := slice_l (A := some ⟨g, oo, none⟩) (n := rest.length) (c := c) .i64 8 hl8 w
    rw [hr8l] at this
    exact this
  have hsl8 := sl_cut S2 (lo := 8) (hi := rest.length) (c := c) hl8 (Nat.le_refl _) HC.out
  rw [hr8l, ← hr8, List.take_of_length_le (Nat.le_refl _)] at hsl8
  have HS8 := Lib.hid hsl8
  have HA8 : Hid (∀ a, cutA (some ⟨g, oo, none⟩) 8 c = some a → a.block < base) := Lib.hid (fun a ha => by rw [cutA_block ha]; exact HA.out _ rfl)
  have HR8 := Lib.hid hr8
  have HRL := Lib.hid hr8l
  have HP2 := Lib.hid P2
  have HT2 := Lib.hid T2
  have HF2 := Lib.hid F2
  have c0 := P2.cell 0
  have c3 := P2.frozens
  have c4 := P2.lt
  simp only [List.getElem?_cons_zero, List.set_cons_succ, List.set_cons_zero] at c0
  have hpR : p ≠ R := hRp
  clear hP hQ hx8 R2 P2 T2 F2 S2 hsl8 hr8 hr8l hl8
  generalize cutA (some ⟨g, oo, none⟩) 8 c = A8 at hs8 HS8 HA8
  go_wp2
  have P3 := HP2.out.set_ 0 (.slice A8 r8.length (c - 8))
  have T3 := HT2.out.far (p := ⟨p, 0, none⟩) hbp (.slice A8 r8.length (c - 8))
  have F3 := HF2.out.setCell (p := ⟨p, 0, none⟩) (.inl (.inl rfl)) (.slice A8 r8.length (c - 8))
  have S3 := HS8.out.under HA8.out ((Fr.refl (fun i => i = p) W2).setCell (p := ⟨p, 0, none⟩) (.inl rfl) (.slice A8 r8.length (c - 8))) (fun k hk => hk ▸ hp)
  have HP3 := Lib.hid P3
  have HT3 := Lib.hid T3
  have HF3 := Lib.hid F3
  have HS3 := Lib.hid S3
  clear P3 T3 F3 S3 HP2 HT2 HF2 HS8 c0 c3 c4 d0 d1 d2 d3 d4 d5 d6 d7 d8 hs8
  obtain ⟨W3, hW3⟩ : ∃ W3, W3 = W2.setCell ⟨p, 0, none⟩ (.slice A8 r8.length (c - 8)) := ⟨_, rfl⟩
  rw [← hW3] at HP3 HT3 HF3 HS3
  rw [← hW3]
  clear hW3
  go_loopg [6, 69] 8 (fun g v6 v69 wr => NRRel W3 P g v6 v69 wr)
  case atStart => exact ⟨0, 0, by omega, rfl, rfl, by simp [leN], rfl⟩
  case round =>
    obtain ⟨i, u, hgi, rfl, rfl, hu, rfl⟩ := hrel
    have HU := Lib.hid hu
    have hi0 : (0 : Int) ≤ (i : Int) := by omega
    clear hu
    by_cases hi : i < 8
    · have hi1 : (i : Int) < 8 := by omega
      have hPl : P.length = 8 := by rw [HP8.out]; rfl
      obtain ⟨x, hx⟩ : ∃ x, P[i]? = some x := ⟨_, List.getElem?_eq_getElem (by omega)⟩
      have hidx := HX8.out i x hx
      have hul : u < 256 ^ i := by
        have h1 := leN_lt (P.take i)
        rw [List.length_take, hPl, Nat.min_eq_left (by omega), ← HU.out] at h1
        exact h1
      have HT := Lib.hid (leN_take hx)
      rw [← HU.out] at HT
      have hxb : x.toNat < 256 := x.toNat_lt
      have HXB := Lib.hid hxb
      have hsf := shl_form x.toNat i hi hxb
      have hor := shl_or u x.toNat i hi hul hxb
      obtain ⟨y, hy⟩ : ∃ y, y = x.toNat * 256 ^ i := ⟨_, rfl⟩
      rw [← hy] at hsf hor HT
      obtain ⟨z, hz⟩ : ∃ z, z = u + y := ⟨_, rfl⟩
      rw [← hz] at hor HT
      have hxw : IntKind.u64.wrap (x.toNat : Int) = (x.toNat : Int) := u64_in _ (by omega)
      clear hx hPl hul hxb hy hz HU
      go_wp2
      go_roundg (8 - (i + 1))
      case measure => omega
      case rel => exact ⟨i + 1, z, by omega, by go_num, rfl, HT.out.symm, rfl⟩
    · have hi1 : (8 : Int) ≤ (i : Int) := by omega
      obtain rfl : i = 8 := by omega
      have HU2 := Lib.hid (HU.out.trans (by rw [List.take_of_length_le (by rw [HP8.out]; exact Nat.le_refl 8)]))
      have e0 := HT3.out.cell o
      rw [hc] at e0
      have e1 := HT3.out.frozen o
      have e2 := HT3.out.lt
      obtain ⟨nv, hnv⟩ : ∃ nv, nv = IntKind.i64.wrap (u : Int) := ⟨_, rfl⟩
      have hnv' := hnv.symm
      have HNV := Lib.hid hnv
      clear hnv hc
      go_wp2
      refine bodyPost_end (v := .tuple #[]) (by simp [results, Try.results94, go_sem]) rfl ⟨⟨_, rfl⟩, ?_, ?_, ?_⟩
      · rw [← HR8.out]
        exact ⟨A8, c - 8, e, HP3.out.far (p := ⟨b, o, none⟩) (fun e => hbp e.symm) _, HS3.out.under HA8.out ((Fr.refl (fun i => i = b) _).setCell (p := ⟨b, o, none⟩) (.inl rfl) (.int .i64 nv)) (fun k hk => hk ▸ hb), HA8.out, by show r8.length ≤ c - 8; have := HC.out; have := HRL.out; omega, by show r8.length ≤ maxLen; have := HM.out; have := HRL.out; omega⟩
      · rw [← HPR.out, ← HU2.out, ← HNV.out]
        exact HT3.out.set_ o _
      · exact fr2_of HF3.out HRw.out o _
set_option maxRecDepth 100000 in
set_option maxHeartbeats 4000000 in
theorem numRO_i64 (p base b o : Nat) (rest : Bs) (t : TypeId) (cs : List Value) (n : Int) (w : World) (h : PipeR w p base (false, rest)) (hp : base ≤ p) (hb : base ≤ b) (hl8 : 8 ≤ rest.length) (hB : Blk w b t cs) (hc : cs[o]? = some (.int .i64 n)) (hbp : b ≠ p) :
    Calls Try.prog 110 #[.pointer (some ⟨p, 0, none⟩), .pointer (some ⟨b, o, none⟩)] w fun e w' => (∃ u, e = .returned u) ∧ PipeR w' p base (false, rest.drop 8) ∧ Blk w' b t (cs.set o (.int .i64 (IntKind.i64.wrap ((leN (rest.take 8) : Nat) : Int)))) ∧ Fr2 p b w w' := by
  obtain ⟨A, c, e, hBp, hsl, hA, hcap, hm⟩ := h
  simp only at hBp hsl hA hcap hm
  obtain ⟨g, oo, hAg, hgl, hcells, _⟩ := hsl.cells (by omega)
  subst hAg
  have HBp := Lib.hid hBp
  have HB := Lib.hid hB
  have HS := Lib.hid hsl
  have HA := Lib.hid hA
  have HC := Lib.hid hcap
  have HM := Lib.hid hm
  have c0 := hBp.cell 0
  have c1 := hBp.cell 1
  have c2 := hBp.cell 2
  have c3 := hBp.frozens
  have c4 := hBp.lt
  simp only [List.getElem?_cons_zero, List.getElem?_cons_succ] at c0 c1 c2
  have hl0 : (8 : Int) ≤ (rest.length : Int) := by omega
  have hln : ¬ (rest.length : Int) < 8 := by omega
  clear hBp hB hsl hA hcap hm hcells
  go_enter Try.func110, Try.ntmps110
  go_wp2
  have F1 := ((Fr.refl (fun i => i = p) w).setCell (p := ⟨p, 2, none⟩) (.inl rfl) (.bool false)).alloc (Obj.cells #[.int .u8 0, .int .u8 0, .int .u8 0, .int .u8 0, .int .u8 0, .int .u8 0, .int .u8 0, .int .u8 0] 184)
  have P1 := (HBp.out.set_ 2 (.bool false)).alloc (Obj.cells #[.int .u8 0, .int .u8 0, .int .u8 0, .int .u8 0, .int .u8 0, .int .u8 0, .int .u8 0, .int .u8 0] 184)
  have T1 := (HB.out.far (p := ⟨p, 2, none⟩) hbp (.bool false)).alloc (Obj.cells #[.int .u8 0, .int .u8 0, .int .u8 0, .int .u8 0, .int .u8 0, .int .u8 0, .int .u8 0, .int .u8 0] 184)
  have R1 := Blk.new (w.setCell ⟨p, 2, none⟩ (.bool false)) 184 [.int .u8 0, .int .u8 0, .int .u8 0, .int .u8 0, .int .u8 0, .int .u8 0, .int .u8 0, .int .u8 0]
  rw [show (w.setCell ⟨p, 2, none⟩ (.bool false)).heap.size = w.heap.size by simp [World.setCell]] at R1
  obtain ⟨R, hR⟩ : ∃ R, R = w.heap.size := ⟨_, rfl⟩
  rw [← hR] at R1
  rw [show (Value.pointer (some ⟨w.heap.size, 0, none⟩)) = Value.pointer (some ⟨R, 0, none⟩) by rw [hR]]
  have hRb : b ≠ R := by have := HB.out.lt; omega
  have hRp : p ≠ R := by omega
  have HRw := Lib.hid (Nat.le_of_eq hR.symm)
  clear c0 c1 c2 c3 c4 hR
  generalize ((w.setCell ⟨p, 2, none⟩ (.bool false)).alloc (Obj.cells #[.int .u8 0, .int .u8 0, .int .u8 0, .int .u8 0, .int .u8 0, .int .u8 0, .int .u8 0, .int .u8 0] 184)) = W1 at F1 P1 T1 R1
  have S1 := HS.out.under HA.out F1 (fun k hk => hk ▸ hp)
  have hcp := room_copy (c := c) R1.drew rfl S1.drew hl8
  have S2 := S1.drew.under HA.out ((Fr.refl (fun i => i = R) W1.drew).setRow (r := (enc8 (rest.take 8)).toArray) (.inl rfl)) (fun k hk => by have := HRw.out; have := HB.out.lt; omega)
  have R2 := setRow_blk (ds := enc8 (rest.take 8)) R1.drew
  have P2 := setRow_far (r := (enc8 (rest.take 8)).toArray) P1.drew hRp
  have T2 := setRow_far (r := (enc8 (rest.take 8)).toArray) T1.drew hRb
  have F2 := (Fr.mono (S' := fun i => i = p ∨ i = R) F1.drew (fun k _ hk => .inl hk)).setRow (g := R) (r := (enc8 (rest.take 8)).toArray) (.inl (.inr rfl))
  have c0 := P1.cell 0
  have c4 := P1.lt
  simp only [List.getElem?_cons_zero, List.set_cons_succ, List.set_cons_zero] at c0
  refine wp_region_o [(0, 0), (1, 0), (2, 0), (3, 0), (4, 1), (5, 3)] (by kernel_rfl) (by kernel_rfl) ?_
  repeat (first
    | (apply wpO_pure rfl rfl; (focus (intro w'; go_simp; (try rfl); done)); try simp only [Act.put, List.setIfInBounds_toArray, List.set_cons_zero, List.set_cons_succ])
    | (apply wpO_read rfl rfl; (focus (intro w' hf' hs'; (try simp only [World.size_drew, World.cell?_drew, World.size_alloc, World.size_setCell] at hs'); go_simp; (try rfl); done)); try simp only [Act.put, List.setIfInBounds_toArray, List.set_cons_zero, List.set_cons_succ])
    | (apply wpO_skip (by decide) rfl rfl; try simp only [Act.put, List.setIfInBounds_toArray, List.set_cons_zero, List.set_cons_succ]))
  refine wpO_loud rfl fun K hK => ?_
  go_simp
  refine hK _ _ ?_
  clear hK K
  repeat (first
    | (apply wpO_pure rfl rfl; (focus (intro w'; go_simp; (try rfl); done)); try simp only [Act.put, List.setIfInBounds_toArray, List.set_cons_zero, List.set_cons_succ])
    | (apply wpO_read rfl rfl; (focus (intro w' hf' hs'; (try simp only [World.size_drew, World.cell?_drew, World.size_alloc, World.size_setCell] at hs'); go_simp; (try rfl); done)); try simp only [Act.put, List.setIfInBounds_toArray, List.set_cons_zero, List.set_cons_succ])
    | (apply wpO_skip (by decide) rfl rfl; try simp only [Act.put, List.setIfInBounds_toArray, List.set_cons_zero, List.set_cons_succ]))
  refine wpO_nil ?_
  clear c0 c4 hcp S1 R1 P1 T1 F1
  generalize W1.drew.setRow R (enc8 (rest.take 8)).toArray = W2 at S2 R2 P2 T2 F2
  obtain ⟨P, hP⟩ : ∃ P, P = rest.take 8 := ⟨_, rfl⟩
  obtain ⟨q0, q1, q2, q3, q4, q5, q6, q7, hQ⟩ := list8 (l := P) (by rw [hP, List.length_take]; omega)
  rw [← hP] at R2
  have HP8 := Lib.hid hQ
  have HPR := Lib.hid hP
  have hx8 : ∀ (i : Nat) (x : UInt8), P[i]? = some x → ∀ w, (Instr.index 184 (.agg #[.int .u8 (q0.toNat : Int), .int .u8 (q1.toNat : Int), .int .u8 (q2.toNat : Int), .int .u8 (q3.toNat : Int), .int .u8 (q4.toNat : Int), .int .u8 (q5.toNat : Int), .int .u8 (q6.toNat : Int), .int .u8 (q7.toNat : Int)]) (.int .i64 (i : Int))).run Try.prog w = .ok (.int .u8 (x.toNat : Int)) w :=
    fun i x hx w => room_at _ _ _ _ _ _ _ _ (enc8 P) (by rw [hQ]; rfl) i _ (enc8_get hx) w
  have HX8 := Lib.hid hx8
  rw [hQ] at R2
  have d0 := R2.cell 0
  have d1 := R2.cell 1
  have d2 := R2.cell 2
  have d3 := R2.cell 3
  have d4 := R2.cell 4
  have d5 := R2.cell 5
  have d6 := R2.cell 6
  have d7 := R2.cell 7
  simp only [enc8, List.map_cons, List.map_nil, List.getElem?_cons_zero, List.getElem?_cons_succ] at d0 d1 d2 d3 d4 d5 d6 d7
  have d8 := R2.lt
  obtain ⟨r8, hr8⟩ : ∃ r8, r8 = rest.drop 8 := ⟨_, rfl⟩
  have hr8l : rest.length - 8 = r8.length := by rw [hr8, List.length_drop]
  have hs8 : ∀ w, (Instr.slice 50 (.slice (some ⟨g, oo, none⟩) rest.length c) (some (.int .i64 8)) none none).run Try.prog w = .ok (.slice (cutA (some ⟨g, oo, none⟩) 8 c) r8.length (c - 8)) w := fun w => by
    have := slice_l (A := some ⟨g, oo, none⟩) (n := rest.length) (c := c) .i64 8 hl8 w
    rw [hr8l] at this
    exact this
  have hsl8 := sl_cut S2 (lo := 8) (hi := rest.length) (c := c) hl8 (Nat.le_refl _) HC.out
  rw [hr8l, ← hr8, List.take_of_length_le (Nat.le_refl _)] at hsl8
  have HS8 := Lib.hid hsl8
  have HA8 : Hid (∀ a, cutA (some ⟨g, oo, none⟩) 8 c = some a → a.block < base) := Lib.hid (fun a ha => by rw [cutA_block ha]; exact HA.out _ rfl)
  have HR8 := Lib.hid hr8
  have HRL := Lib.hid hr8l
  have HP2 := Lib.hid P2
  have HT2 := Lib.hid T2
  have HF2 := Lib.hid F2
  have c0 := P2.cell 0
  have c3 := P2.frozens
  have c4 := P2.lt
  simp only [List.getElem?_cons_zero, List.set_cons_succ, List.set_cons_zero] at c0
  have hpR : p ≠ R := hRp
  clear hP hQ hx8 R2 P2 T2 F2 S2 hsl8 hr8 hr8l hl8
  generalize cutA (some ⟨g, oo, none⟩) 8 c = A8 at hs8 HS8 HA8
  go_wp2
  have P3 := HP2.out.set_ 0 (.slice A8 r8.length (c - 8))
  have T3 := HT2.out.far (p := ⟨p, 0, none⟩) hbp (.slice A8 r8.length (c - 8))
  have F3 := HF2.out.setCell (p := ⟨p, 0, none⟩) (.inl (.inl rfl)) (.slice A8 r8.length (c - 8))
  have S3 := HS8.out.under HA8.out ((Fr.refl (fun i => i = p) W2).setCell (p := ⟨p, 0, none⟩) (.inl rfl) (.slice A8 r8.length (c - 8))) (fun k hk => hk ▸ hp)
  have HP3 := Lib.hid P3
  have HT3 := Lib.hid T3
  have HF3 := Lib.hid F3
  have HS3 := Lib.hid S3
  clear P3 T3 F3 S3 HP2 HT2 HF2 HS8 c0 c3 c4 d0 d1 d2 d3 d4 d5 d6 d7 d8 hs8
  obtain ⟨W3, hW3⟩ : ∃ W3, W3 = W2.setCell ⟨p, 0, none⟩ (.slice A8 r8.length (c - 8)) := ⟨_, rfl⟩
  rw [← hW3] at HP3 HT3 HF3 HS3
  rw [← hW3]
  clear hW3
  go_loopg [6, 69] 8 (fun g v6 v69 wr => NRRel W3 P g v6 v69 wr)
  case atStart => exact ⟨0, 0, by omega, rfl, rfl, by simp [leN], rfl⟩
  case round =>
    obtain ⟨i, u, hgi, rfl, rfl, hu, rfl⟩ := hrel
    have HU := Lib.hid hu
    have hi0 : (0 : Int) ≤ (i : Int) := by omega
    clear hu
    by_cases hi : i < 8
    · have hi1 : (i : Int) < 8 := by omega
      have hPl : P.length = 8 := by rw [HP8.out]; rfl
      obtain ⟨x, hx⟩ : ∃ x, P[i]? = some x := ⟨_, List.getElem?_eq_getElem (by omega)⟩
      have hidx := HX8.out i x hx
      have hul : u < 256 ^ i := by
        have h1 := leN_lt (P.take i)
        rw [List.length_take, hPl, Nat.min_eq_left (by omega), ← HU.out] at h1
        exact h1
      have HT := Lib.hid (leN_take hx)
      rw [← HU.out] at HT
      have hxb : x.toNat < 256 := x.toNat_lt
      have HXB := Lib.hid hxb
      have hsf := shl_form x.toNat i hi hxb
      have hor := shl_or u x.toNat i hi hul hxb
      obtain ⟨y, hy⟩ : ∃ y, y = x.toNat * 256 ^ i := ⟨_, rfl⟩
      rw [← hy] at hsf hor HT
      obtain ⟨z, hz⟩ : ∃ z, z = u + y := ⟨_, rfl⟩
      rw [← hz] at hor HT
      have hxw : IntKind.u64.wrap (x.toNat : Int) = (x.toNat : Int) := u64_in _ (by omega)
      clear hx hPl hul hxb hy hz HU
      go_wp2
      go_roundg (8 - (i + 1))
      case measure => omega
      case rel => exact ⟨i + 1, z, by omega, by go_num, rfl, HT.out.symm, rfl⟩
    · have hi1 : (8 : Int) ≤ (i : Int) := by omega
      obtain rfl : i = 8 := by omega
      have HU2 := Lib.hid (HU.out.trans (by rw [List.take_of_length_le (by rw [HP8.out]; exact Nat.le_refl 8)]))
      have e0 := HT3.out.cell o
      rw [hc] at e0
      have e1 := HT3.out.frozen o
      have e2 := HT3.out.lt
      obtain ⟨nv, hnv⟩ : ∃ nv, nv = IntKind.i64.wrap (u : Int) := ⟨_, rfl⟩
      have hnv' := hnv.symm
      have HNV := Lib.hid hnv
      clear hnv hc
      go_wp2
      refine bodyPost_end (v := .tuple #[]) (by simp [results, Try.results110, go_sem]) rfl ⟨⟨_, rfl⟩, ?_, ?_, ?_⟩
      · rw [← HR8.out]
        exact ⟨A8, c - 8, e, HP3.out.far (p := ⟨b, o, none⟩) (fun e => hbp e.symm) _, HS3.out.under HA8.out ((Fr.refl (fun i => i = b) _).setCell (p := ⟨b, o, none⟩) (.inl rfl) (.int .i64 nv)) (fun k hk => hk ▸ hb), HA8.out, by show r8.length ≤ c - 8; have := HC.out; have := HRL.out; omega, by show r8.length ≤ maxLen; have := HM.out; have := HRL.out; omega⟩
      · rw [← HPR.out, ← HU2.out, ← HNV.out]
        exact HT3.out.set_ o _
      · exact fr2_of HF3.out HRw.out o _
end Go.Proofs.Ytegogggemmcgdaa

/- codec: counts, texts, truths, rows of numbers that are written; numbers that are read. -/
namespace Go.Proofs.Ytegogggemmcgdaa
open Go Go.RowKit Go.Proofs

theorem set_self {α : Type} {l : List α} {i : Nat} {x : α} (h : l[i]? = some x) : l.set i x = l := by
  apply List.ext_getElem?
  intro k
  by_cases e : i = k
  · subst e
    rw [List.getElem?_set_self (List.getElem?_eq_some_iff.1 h).1, h]
  · rw [List.getElem?_set_ne e]
theorem Fr2.of {p b : Nat} {w w' : World} (h : Fr (fun i => i = p) w w') : Fr2 p b w w' := h.mono fun _ _ e => .inl e
theorem numR_int (p base b o : Nat) (s : RS) (t : TypeId) (cs : List Value) (n : Int) (w : World) (h : PipeR w p base s) (hp : base ≤ p) (hb : base ≤ b) (hB : Blk w b t cs) (hc : cs[o]? = some (.int .i64 n)) (hbp : b ≠ p) :
    Calls Try.prog 94 #[.pointer (some ⟨p, 0, none⟩), .pointer (some ⟨b, o, none⟩)] w fun e w' => (∃ u, e = .returned u) ∧ PipeR w' p base (numS s n).1 ∧ Blk w' b t (cs.set o (.int .i64 (numS s n).2)) ∧ Fr2 p b w w' := by
  by_cases hs : (s.1 || decide (s.2.length < 8)) = true
  · refine (numRB_int p base b o s w h hp hs).mono fun e w' ⟨h1, h2, h3⟩ => ⟨h1, ?_, ?_, Fr2.of h3⟩
    · rw [numS, if_pos hs]; exact h2
    · rw [numS, if_pos hs, set_self hc]; exact hB.fr h3 hbp
  · obtain ⟨bd, rest⟩ := s
    have hs' := hs
    simp only [Bool.or_eq_true, decide_eq_true_eq, not_or, Bool.not_eq_true] at hs'
    obtain ⟨rfl, hl⟩ := hs'
    refine (numRO_int p base b o rest t cs n w h hp hb (by omega) hB hc hbp).mono fun e w' ⟨h1, h2, h3, h4⟩ => ⟨h1, ?_, ?_, h4⟩
    · rw [numS, if_neg hs]; exact h2
    · rw [numS, if_neg hs]; exact h3
theorem numR_i64 (p base b o : Nat) (s : RS) (t : TypeId) (cs : List Value) (n : Int) (w : World) (h : PipeR w p base s) (hp : base ≤ p) (hb : base ≤ b) (hB : Blk w b t cs) (hc : cs[o]? = some (.int .i64 n)) (hbp : b ≠ p) :
    Calls Try.prog 110 #[.pointer (some ⟨p, 0, none⟩), .pointer (some ⟨b, o, none⟩)] w fun e w' => (∃ u, e = .returned u) ∧ PipeR w' p base (numS s n).1 ∧ Blk w' b t (cs.set o (.int .i64 (numS s n).2)) ∧ Fr2 p b w w' := by
  by_cases hs : (s.1 || decide (s.2.length < 8)) = true
  · refine (numRB_i64 p base b o s w h hp hs).mono fun e w' ⟨h1, h2, h3⟩ => ⟨h1, ?_, ?_, Fr2.of h3⟩
    · rw [numS, if_pos hs]; exact h2
    · rw [numS, if_pos hs, set_self hc]; exact hB.fr h3 hbp
  · obtain ⟨bd, rest⟩ := s
    have hs' := hs
    simp only [Bool.or_eq_true, decide_eq_true_eq, not_or, Bool.not_eq_true] at hs'
    obtain ⟨rfl, hl⟩ := hs'
    refine (numRO_i64 p base b o rest t cs n w h hp hb (by omega) hB hc hbp).mono fun e w' ⟨h1, h2, h3, h4⟩ => ⟨h1, ?_, ?_, h4⟩
    · rw [numS, if_neg hs]; exact h2
    · rw [numS, if_neg hs]; exact h3

/-- the place of what is written: no row of bytes, no pipe -/
structure Src (w : World) (b : Nat) (t : TypeId) (cs : List Value) : Prop where
  blk : Blk w b t cs
  ne : t ≠ 5
  np : t ≠ 109
theorem Src.ne_p {w : World} {b p : Nat} {t : TypeId} {cs ds : List Value} (h : Src w b t cs) (hp : Blk w p 109 ds) : b ≠ p := h.blk.ne_ hp h.np
theorem Src.frp {w w' : World} {p base b : Nat} {t : TypeId} {cs : List Value} {v : Value} {l : Bs} {bad : Bool} (h : Src w b t cs) (hp : PipeW w p base v l bad) (hf : FrP p base w w') : Src w' b t cs := ⟨FrP.blk h.blk hf (h.ne_p hp.blk) h.ne, h.ne, h.np⟩
theorem Src.fr0 {w w' : World} {b : Nat} {t : TypeId} {cs : List Value} (h : Src w b t cs) (hf : Fr No w w') : Src w' b t cs := ⟨h.blk.fr hf (fun h => h), h.ne, h.np⟩
theorem pipe_bad {w : World} {p base : Nat} {v : Value} {l : Bs} {bad : Bool} (h : PipeW w p base v l bad) (b2 : Bool) : PipeW (w.setCell ⟨p, 2, none⟩ (.bool b2)) p base v l b2 :=
  ⟨h.blk.set_ 2 (.bool b2), own_fr h.buf ((Fr.refl (fun i => i = p) w).setCell (p := ⟨p, 2, none⟩) (.inl rfl) (.bool b2)) (fun k hk => buf_not h.buf h.blk (by decide) k hk), by have := h.size; simpa [World.setCell] using this⟩
def manyBad (bad : Bool) (n most : Int) : Bool := bad || decide (n < 0) || decide (most < n)
set_option maxRecDepth 100000 in
set_option maxHeartbeats 2000000 in
theorem manyW_any (p base : Nat) (v : Value) (l : Bs) (bad : Bool) (b o : Nat) (t : TypeId) (cs : List Value) (n most : Int) (w : World) (h : PipeW w p base v l bad) (hB : Src w b t cs) (hc : cs[o]? = some (.int .i64 n)) (hl : l.length ≤ 150000000000000) :
    Calls Try.prog 111 #[.pointer (some ⟨p, 0, none⟩), .pointer (some ⟨b, o, none⟩), .int .i64 most] w fun e w' => (∃ u, e = .returned u) ∧ ∃ v', PipeW w' p base v' (l ++ leB (u64N n) 8) (manyBad bad n most) ∧ FrP p base w w' := by
  have H := Lib.hid h
  have HB := Lib.hid hB
  have HC := Lib.hid hc
  have HL := Lib.hid hl
  clear h hB hc hl
  cases bad
  · by_cases h1 : n < 0
    · have e : manyBad false n most = true := by simp [manyBad, h1]
      have E := Lib.hid e
      clear e
      go_enter Try.func111, Try.ntmps111
      go_wp2_with (go_at_call 94; refine (numW_int p base v l _ b o n _ H.out ((HB.out.blk.cell o).trans HC.out) HB.out.blk.lt HL.out).mono ?_; rintro e w1 ⟨⟨u1, rfl⟩, v1, hp1, hf1⟩; have HP1 := Lib.hid hp1; have HF1 := Lib.hid hf1; have B1 := HB.out.frp H.out hf1; have n0 := (B1.blk.cell o).trans HC.out; have n1 := B1.blk.lt; have c2 := hp1.blk.cell 2; have c3 := hp1.blk.frozens; have c4 := hp1.blk.lt; simp only [List.getElem?_cons_zero, List.getElem?_cons_succ] at c2; clear hp1 hf1 B1)
      exact bodyPost_end (v := .tuple #[]) (by simp [results, Try.results111, go_sem]) rfl ⟨⟨_, rfl⟩, v1, by rw [E.out]; exact pipe_bad HP1.out true, HF1.out.set 2 _⟩
    · by_cases h2 : most < n
      · have E := Lib.hid (show manyBad false n most = true by simp [manyBad, h2])
        go_enter Try.func111, Try.ntmps111
        go_wp2_with (go_at_call 94; refine (numW_int p base v l _ b o n _ H.out ((HB.out.blk.cell o).trans HC.out) HB.out.blk.lt HL.out).mono ?_; rintro e w1 ⟨⟨u1, rfl⟩, v1, hp1, hf1⟩; have HP1 := Lib.hid hp1; have HF1 := Lib.hid hf1; have B1 := HB.out.frp H.out hf1; have n0 := (B1.blk.cell o).trans HC.out; have n1 := B1.blk.lt; have c2 := hp1.blk.cell 2; have c3 := hp1.blk.frozens; have c4 := hp1.blk.lt; simp only [List.getElem?_cons_zero, List.getElem?_cons_succ] at c2; clear hp1 hf1 B1)
        exact bodyPost_end (v := .tuple #[]) (by simp [results, Try.results111, go_sem]) rfl ⟨⟨_, rfl⟩, v1, by rw [E.out]; exact pipe_bad HP1.out true, HF1.out.set 2 _⟩
      · have d1 : decide (n < 0) = false := by simp [h1]
        have d2 : decide (most < n) = false := by simp [h2]
        have E := Lib.hid (show manyBad false n most = false by rw [manyBad, d1, d2]; rfl)
        go_enter Try.func111, Try.ntmps111
        go_wp2_with (go_at_call 94; refine (numW_int p base v l _ b o n _ H.out ((HB.out.blk.cell o).trans HC.out) HB.out.blk.lt HL.out).mono ?_; rintro e w1 ⟨⟨u1, rfl⟩, v1, hp1, hf1⟩; have HP1 := Lib.hid hp1; have HF1 := Lib.hid hf1; have B1 := HB.out.frp H.out hf1; have n0 := (B1.blk.cell o).trans HC.out; have n1 := B1.blk.lt; have c2 := hp1.blk.cell 2; have c3 := hp1.blk.frozens; have c4 := hp1.blk.lt; simp only [List.getElem?_cons_zero, List.getElem?_cons_succ] at c2; clear hp1 hf1 B1)
        exact bodyPost_end (v := .tuple #[]) (by simp [results, Try.results111, go_sem]) rfl ⟨⟨_, rfl⟩, v1, by rw [E.out]; exact pipe_bad HP1.out false, HF1.out.set 2 _⟩
  · have E := Lib.hid (show manyBad true n most = true by simp [manyBad])
    go_enter Try.func111, Try.ntmps111
    go_wp2_with (go_at_call 94; refine (numW_int p base v l _ b o n _ H.out ((HB.out.blk.cell o).trans HC.out) HB.out.blk.lt HL.out).mono ?_; rintro e w1 ⟨⟨u1, rfl⟩, v1, hp1, hf1⟩; have HP1 := Lib.hid hp1; have HF1 := Lib.hid hf1; have B1 := HB.out.frp H.out hf1; have n0 := (B1.blk.cell o).trans HC.out; have n1 := B1.blk.lt; have c2 := hp1.blk.cell 2; have c3 := hp1.blk.frozens; have c4 := hp1.blk.lt; simp only [List.getElem?_cons_zero, List.getElem?_cons_succ] at c2; clear hp1 hf1 B1)
    exact bodyPost_end (v := .tuple #[]) (by simp [results, Try.results111, go_sem]) rfl ⟨⟨_, rfl⟩, v1, by rw [E.out]; exact pipe_bad HP1.out true, HF1.out.set 2 _⟩
theorem manyBad_len (bad : Bool) (n most : Nat) : manyBad bad (n : Int) (most : Int) = (bad || decide (most < n)) := by
  cases bad <;> simp [manyBad]
  omega
theorem pipe_new {w w2 : World} {p base : Nat} {v v2 : Value} {l l2 : Bs} {bad : Bool} (h : PipeW w p base v l bad) (hO : Buf w2 base v2 l2) (hB : Blk w2 p 109 [v, .bool true, .bool bad]) (hs : w.heap.size ≤ w2.heap.size) : PipeW (w2.setCell ⟨p, 0, none⟩ v2) p base v2 l2 bad :=
  pipe_set hB hO (Nat.le_trans h.size hs)
set_option maxRecDepth 100000 in
set_option maxHeartbeats 2000000 in
theorem textW_any (p base : Nat) (v : Value) (l : Bs) (bad : Bool) (b o : Nat) (t : TypeId) (cs : List Value) (s : ByteArray) (most : Int) (w : World) (h : PipeW w p base v l bad) (hB : Src w b t cs) (hc : cs[o]? = some (.string s)) (hl : l.length + s.size + 8 ≤ 150000000000000) :
    Calls Try.prog 96 #[.pointer (some ⟨p, 0, none⟩), .pointer (some ⟨b, o, none⟩), .int .i64 most] w fun e w' => (∃ u, e = .returned u) ∧ ∃ v', PipeW w' p base v' (l ++ leB (u64N s.size) 8 ++ s.data.toList) (manyBad bad s.size most) ∧ FrP p base w w' := by
  have n0 := (hB.blk.cell o).trans hc
  have n1 := hB.blk.lt
  have H := Lib.hid h
  have HB := Lib.hid hB
  have HC := Lib.hid hc
  have HL := Lib.hid hl
  have hsz : (s.size : Int) ≤ 9223372036854775807 := by omega
  have hsz0 : (0 : Int) ≤ (s.size : Int) := by omega
  have HN := Lib.hid (Src.mk (Blk.new w 3 [.int .i64 s.size]) (by decide) (by decide))
  have HF := Lib.hid ((Fr.refl No w).alloc (Obj.cells #[.int .i64 s.size] 3))
  obtain ⟨mb, hmb⟩ : ∃ mb, mb = manyBad bad s.size most := ⟨_, rfl⟩
  have HMB := Lib.hid hmb
  clear h hB hc hl hmb
  go_enter Try.func96, Try.ntmps96
  go_wp2_with (go_at_call 111; refine (manyW_any p base v l bad w.heap.size 0 3 _ s.size most _ (H.out.fr0 HF.out) HN.out rfl (by have := HL.out; omega)).mono ?_; rintro e w1 ⟨⟨u1, rfl⟩, v1, hp1, hf1⟩; rw [← HMB.out] at hp1; have HP1 := Lib.hid hp1; have HF1 := Lib.hid ((FrP.no HF.out).trans hf1); have c0 := hp1.blk.cell 0; have c1 := hp1.blk.cell 1; have c4 := hp1.blk.lt; simp only [List.getElem?_cons_zero, List.getElem?_cons_succ] at c0 c1; clear hp1 hf1 n0 n1)
  have B1 := HB.out.frp H.out HF1.out
  have n0 := (B1.blk.cell o).trans HC.out
  have n1 := B1.blk.lt
  clear B1
  have hO : w1.drew.ownsRow base 5 1 v1 (l ++ leB (u64N s.size) 8).length (enc8 (l ++ leB (u64N s.size) 8)) := own_fr0 HP1.out.buf ((Fr.refl No w1).drew)
  refine OS.wp_region_o No [(0, 0), (1, 0), (2, 0), (3, 0), (4, 1), (5, 0), (6, 0), (7, 1), (8, 3), (9, 0), (10, 0), (11, 3)] (by kernel_rfl) (by kernel_rfl) ?_
  repeat (first
    | (apply OS.wpO_pure rfl rfl; (focus (intro w'; go_simp; (try rfl); done)); try simp only [Act.put, List.setIfInBounds_toArray, List.set_cons_zero, List.set_cons_succ])
    | (apply OS.wpO_read rfl rfl; (focus (intro w' hf' hs'; (try simp only [World.size_drew, World.cell?_drew, World.size_alloc, World.size_setCell, not_false_eq_true, forall_const] at hs'); go_simp; (try rfl); done)); try simp only [Act.put, List.setIfInBounds_toArray, List.set_cons_zero, List.set_cons_succ])
    | (apply OS.wpO_skip (by decide) rfl rfl; try simp only [Act.put, List.setIfInBounds_toArray, List.set_cons_zero, List.set_cons_succ]))
  refine OS.wpO_loud rfl fun K hK => ?_
  refine step_str_append (by rfl) (.tmp 22) (.tmp 25) (by rfl) (base) (v1) (l ++ leB (u64N s.size) 8) (by rfl) (hO) (s) (by rfl) (by rw [List.length_append, leB_length]; have := HL.out; omega) (HP1.out.size) ?_
  intro v2 w2 ho_v2 hg_v2
  refine hK _ _ ?_
  clear hK K
  try simp only [Act.put, List.setIfInBounds_toArray, List.set_cons_zero, List.set_cons_succ]
  have B2 := Blk.u8 (HP1.out.blk.drew) (U8.grown (Fr.refl (U8 base w1.drew) w1.drew) hO hg_v2) (by decide)
  have d0 := B2.cell 0
  have d1 := B2.frozen 0
  have d2 := B2.lt
  simp only [List.getElem?_cons_zero] at d0
  have HB2 := Lib.hid B2
  have HF2 := Lib.hid (HF1.out.trans (FrP.grown (FrP.no (p := p) ((Fr.refl No w1).drew)) hO hg_v2))
  have HS2 := Lib.hid hg_v2.size
  obtain ⟨l2, hl2⟩ : ∃ l2, l2 = l ++ leB (u64N s.size) 8 ++ s.data.toList := ⟨_, rfl⟩
  rw [← hl2] at ho_v2
  have HL2 := Lib.hid hl2
  obtain ⟨A2, k2, rfl, _⟩ := own_shape ho_v2
  have HO2 := Lib.hid ho_v2
  clear B2 ho_v2 hg_v2 hO hl2
  repeat (first
    | (apply OS.wpO_pure rfl rfl; (focus (intro w'; go_simp; (try rfl); done)); try simp only [Act.put, List.setIfInBounds_toArray, List.set_cons_zero, List.set_cons_succ])
    | (apply OS.wpO_read rfl rfl; (focus (intro w' hf' hs'; (try simp only [World.size_drew, World.cell?_drew, World.size_alloc, World.size_setCell, not_false_eq_true, forall_const] at hs'); go_simp; (try rfl); done)); try simp only [Act.put, List.setIfInBounds_toArray, List.set_cons_zero, List.set_cons_succ])
    | (apply OS.wpO_skip (by decide) rfl rfl; try simp only [Act.put, List.setIfInBounds_toArray, List.set_cons_zero, List.set_cons_succ]))
  refine OS.wpO_loud rfl fun K hK => ?_
  go_simp
  refine hK _ _ ?_
  clear hK K
  repeat (first
    | (apply OS.wpO_pure rfl rfl; (focus (intro w'; go_simp; (try rfl); done)); try simp only [Act.put, List.setIfInBounds_toArray, List.set_cons_zero, List.set_cons_succ])
    | (apply OS.wpO_read rfl rfl; (focus (intro w' hf' hs'; (try simp only [World.size_drew, World.cell?_drew, World.size_alloc, World.size_setCell, not_false_eq_true, forall_const] at hs'); go_simp; (try rfl); done)); try simp only [Act.put, List.setIfInBounds_toArray, List.set_cons_zero, List.set_cons_succ])
    | (apply OS.wpO_skip (by decide) rfl rfl; try simp only [Act.put, List.setIfInBounds_toArray, List.set_cons_zero, List.set_cons_succ]))
  refine OS.wpO_nil ?_
  go_wp2
  refine bodyPost_ret (v := .tuple #[]) (by simp [results, Try.results96, go_sem]) rfl ⟨⟨_, rfl⟩, .slice A2 l2.length k2, ?_, HF2.out.set 0 _⟩
  rw [← HL2.out, ← HMB.out]
  exact pipe_new HP1.out HO2.out HB2.out HS2.out
def bitB (is : Bool) : Bs := [if is then 1 else 0]
set_option maxRecDepth 100000 in
set_option maxHeartbeats 2000000 in
theorem truthW_any (p base : Nat) (v : Value) (l : Bs) (bad : Bool) (b o : Nat) (t : TypeId) (cs : List Value) (is : Bool) (w : World) (h : PipeW w p base v l bad) (hB : Src w b t cs) (hc : cs[o]? = some (.bool is)) (hl : l.length ≤ 150000000000000) :
    Calls Try.prog 112 #[.pointer (some ⟨p, 0, none⟩), .pointer (some ⟨b, o, none⟩)] w fun e w' => (∃ u, e = .returned u) ∧ ∃ v', PipeW w' p base v' (l ++ bitB is) bad ∧ FrP p base w w' := by
  have n0 := (hB.blk.cell o).trans hc
  have n1 := hB.blk.lt
  have c0 := h.blk.cell 0
  have c1 := h.blk.cell 1
  have c4 := h.blk.lt
  simp only [List.getElem?_cons_zero, List.getElem?_cons_succ] at c0 c1
  have H := Lib.hid h
  have HL := Lib.hid hl
  clear h hB hc hl
  cases is
  · skip
    go_enter Try.func112, Try.ntmps112
    go_wp2_with (first
      | (at_builtin; go_loud (refine wpList_buf_append (by rfl) (.tmp 16) (.tmp 18) (by rfl) base v l (by rfl) (own_fr0 H.out.buf ((Fr.refl No w).alloc (Obj.cells #[.int .u8 0] 5))) _ 1 1 _ (bitB false) (by rfl) (Sl.of_new w 5 1 1 #[.int .u8 0] (enc8 (bitB false)) rfl rfl) (by have := HL.out; omega) (by have := H.out.size; simp only [World.size_alloc]; omega) ?_); intro v2 w2 ho2 hg2
         have O1 : Buf (w.alloc (Obj.cells #[.int .u8 0] 5)) base v l := own_fr0 H.out.buf ((Fr.refl No w).alloc _)
         have B2 := Blk.u8 (H.out.blk.alloc (Obj.cells #[.int .u8 0] 5)) (U8.grown (Fr.refl (U8 base (w.alloc (Obj.cells #[.int .u8 0] 5))) _) O1 hg2) (by decide)
         have d0 := B2.cell 0
         have d1 := B2.frozen 0
         have d2 := B2.lt
         simp only [List.getElem?_cons_zero] at d0
         have HB2 := Lib.hid B2
         have HF2 := Lib.hid (FrP.grown (FrP.no (p := p) ((Fr.refl No w).alloc (Obj.cells #[.int .u8 0] 5))) O1 hg2)
         have HS2 := Lib.hid (Nat.le_trans ((Fr.refl No w).alloc (Obj.cells #[.int .u8 0] 5)).size hg2.size)
         obtain ⟨l2, hl2⟩ : ∃ l2, l2 = l ++ bitB false := ⟨_, rfl⟩
         rw [← hl2] at ho2
         have HL2 := Lib.hid hl2
         obtain ⟨A2, k2, rfl, _⟩ := own_shape ho2
         have HO2 := Lib.hid ho2
         clear B2 ho2 hg2 O1 hl2))
    refine bodyPost_ret (v := .tuple #[]) (by simp [results, Try.results112, go_sem]) rfl ⟨⟨_, rfl⟩, .slice A2 l2.length k2, ?_, HF2.out.set 0 _⟩
    rw [← HL2.out]
    exact pipe_new H.out HO2.out HB2.out HS2.out
  · skip
    go_enter Try.func112, Try.ntmps112
    go_wp2_with (first
      | (at_builtin; go_loud (refine wpList_buf_append (by rfl) (.tmp 16) (.tmp 18) (by rfl) base v l (by rfl) (own_fr0 H.out.buf ((Fr.refl No w).alloc (Obj.cells #[.int .u8 1] 5))) _ 1 1 _ (bitB true) (by rfl) (Sl.of_new w 5 1 1 #[.int .u8 1] (enc8 (bitB true)) rfl rfl) (by have := HL.out; omega) (by have := H.out.size; simp only [World.size_alloc]; omega) ?_); intro v2 w2 ho2 hg2
         have O1 : Buf (w.alloc (Obj.cells #[.int .u8 1] 5)) base v l := own_fr0 H.out.buf ((Fr.refl No w).alloc _)
         have B2 := Blk.u8 (H.out.blk.alloc (Obj.cells #[.int .u8 1] 5)) (U8.grown (Fr.refl (U8 base (w.alloc (Obj.cells #[.int .u8 1] 5))) _) O1 hg2) (by decide)
         have d0 := B2.cell 0
         have d1 := B2.frozen 0
         have d2 := B2.lt
         simp only [List.getElem?_cons_zero] at d0
         have HB2 := Lib.hid B2
         have HF2 := Lib.hid (FrP.grown (FrP.no (p := p) ((Fr.refl No w).alloc (Obj.cells #[.int .u8 1] 5))) O1 hg2)
         have HS2 := Lib.hid (Nat.le_trans ((Fr.refl No w).alloc (Obj.cells #[.int .u8 1] 5)).size hg2.size)
         obtain ⟨l2, hl2⟩ : ∃ l2, l2 = l ++ bitB true := ⟨_, rfl⟩
         rw [← hl2] at ho2
         have HL2 := Lib.hid hl2
         obtain ⟨A2, k2, rfl, _⟩ := own_shape ho2
         have HO2 := Lib.hid ho2
         clear B2 ho2 hg2 O1 hl2))
    refine bodyPost_ret (v := .tuple #[]) (by simp [results, Try.results112, go_sem]) rfl ⟨⟨_, rfl⟩, .slice A2 l2.length k2, ?_, HF2.out.set 0 _⟩
    rw [← HL2.out]
    exact pipe_new H.out HO2.out HB2.out HS2.out
end Go.Proofs.Ytegogggemmcgdaa

/- the law's helpers Lent, Kept, Spoil. -/
namespace Go.Proofs.Ytegogggemmcgdaa
open Go Go.RowKit Go.Proofs

def a5s : Bs := [165, 165, 165, 165, 165, 165, 165, 165]
theorem slice_h0 {g o n c : Nat} (kh : IntKind) (hi : Nat) (h2 : hi ≤ c) (w : World) :
    (Instr.slice 50 (.slice (some ⟨g, o, none⟩) n c) none (some (.int kh (hi : Int))) none).run Try.prog w = .ok (.slice (some ⟨g, o, none⟩) hi c) w := by
  rw [slice_h kh hi h2 w, Nat.sub_zero, Nat.sub_zero]
  have : cutA (some ⟨g, o, none⟩) 0 c = some ⟨g, o, none⟩ := by
    rw [cutA_def]
    split
    · rfl
    · rw [Option.map_some, add_off]; rfl
  rw [this]
theorem sl_head {w : World} {e : TypeId} {g o : Nat} {l k : Bs} {n : Nat} (h : Sl w e 1 (some ⟨g, o, none⟩) n (enc8 (l ++ k))) : Sl w e 1 (some ⟨g, o, none⟩) l.length (enc8 l) := by
  refine ⟨by rw [enc8_length]; omega, fun hn => ?_⟩
  have hl := h.1
  rw [enc8_length, List.length_append] at hl
  obtain ⟨b, o', cur, fr, hA, hb, hx⟩ := h.2 (by omega)
  refine ⟨b, o', cur, fr, hA, hb, fun j u hu => hx j u ?_⟩
  rw [enc8_append, List.getElem?_append_left]
  · exact hu
  · rcases Nat.lt_or_ge j (enc8 l).length with h | h
    · exact h
    · rw [List.getElem?_eq_none h] at hu; cases hu
/-- a slice that is lent: bytes, and eight more behind -/
structure LentAt (w : World) (base g c : Nat) (l : Bs) : Prop where
  row : w.ownsRow base 5 1 (.slice (some ⟨g, 0, none⟩) (l.length + 8) c) (l.length + 8) (enc8 (l ++ a5s))
  cap : l.length + 8 ≤ c
theorem LentAt.fr {S : Nat → Prop} {w w' : World} {base g c : Nat} {l : Bs} (h : LentAt w base g c l) (hf : Fr S w w') (hS : ¬ S g) : LentAt w' base g c l := ⟨own_fr h.row hf (fun k hk => by
  simp only [Value.ownBlock, Option.some.injEq] at hk
  subst hk
  exact hS), h.cap⟩
theorem LentAt.fr0 {w w' : World} {base g c : Nat} {l : Bs} (h : LentAt w base g c l) (hf : Fr No w w') : LentAt w' base g c l := h.fr hf fun h => h
theorem LentAt.sl {w : World} {base g c : Nat} {l : Bs} (h : LentAt w base g c l) : Sl w 5 1 (some ⟨g, 0, none⟩) l.length (enc8 l) := sl_head (k := a5s) (Sl.of_own h.row)
theorem lent_mk {w : World} {base g c : Nat} {l : Bs} (h : w.ownsRow base 5 1 (.slice (some ⟨g, 0, none⟩) (l.length + 8) c) (l.length + 8) (enc8 (l ++ a5s))) : LentAt w base g c l := by
  refine ⟨h, ?_⟩
  rcases h.2 with ⟨h0, _⟩ | ⟨g', cap, cur, hv, _, _, hc, _⟩
  · cases h0
  · injection hv with h1 h2 h3
    omega
theorem LentAt.base {w : World} {base g c : Nat} {l : Bs} (h : LentAt w base g c l) : base ≤ g ∧ g < w.heap.size := own_size h.row g rfl
set_option maxRecDepth 100000 in
set_option maxHeartbeats 1000000 in
theorem lent_any (A : Option Addr) (c : Nat) (e : TypeId) (l : Bs) (w : World) (h : Sl w e 1 A l.length (enc8 l)) (hm : l.length ≤ 140737488355328) :
    Calls Try.prog 36 #[.slice A l.length c] w fun e w' => ∃ g c', e = .returned (.slice (some ⟨g, 0, none⟩) l.length c') ∧ LentAt w' w.heap.size g c' l ∧ w.heap.size ≤ g ∧ Fr No w w' := by
  have H := Lib.hid h
  have HM := Lib.hid hm
  have hl0 : (0 : Int) ≤ (l.length : Int) := by omega
  have hl2 : (l.length : Int) ≤ 140737488355328 := by omega
  obtain ⟨i, hi, hz, hs, hb⟩ := info_parts u8_info
  obtain ⟨w1, hmk, hown, hgr⟩ := run_make_own (P := Try.prog) w w.heap.size 50 5 i _ 1 bytes_und hi hz hs .i64 .i64 (l.length + 8) (by rw [hb]; omega) (by simp only [maxLen]; omega) (Nat.le_refl _)
  rw [show (((l.length + 8 : Nat)) : Int) = (l.length : Int) + 8 by omega] at hmk
  have HO := Lib.hid hown
  have HF := Lib.hid ((Fr.refl No w).grown hgr (fun k hk => (by cases hk)))
  clear h hm hown hgr hi hz hs hb
  go_enter Try.func36, Try.ntmps36
  go_wp2_with (first
    | (at_builtin; go_loud (refine wpList_buf_append (by rfl) (.tmp 11) (.tmp 12) (by rfl) w.heap.size v2 l (by rfl) (own_fr0 HO2.out ((Fr.refl No w2).alloc _)) _ 8 8 _ a5s (by rfl) (Sl.of_new w2 5 1 8 #[.int .u8 165, .int .u8 165, .int .u8 165, .int .u8 165, .int .u8 165, .int .u8 165, .int .u8 165, .int .u8 165] (enc8 a5s) rfl rfl) (by have := HM.out; omega) (by have := HF2.out.size; simp only [World.size_alloc]; omega) ?_); intro v3 w3 ho3 hg3
       have F3 := HF2.out.alloc (Obj.cells #[.int .u8 165, .int .u8 165, .int .u8 165, .int .u8 165, .int .u8 165, .int .u8 165, .int .u8 165, .int .u8 165] 5)
       have O2 : Buf (w2.alloc (Obj.cells #[.int .u8 165, .int .u8 165, .int .u8 165, .int .u8 165, .int .u8 165, .int .u8 165, .int .u8 165, .int .u8 165] 5)) w.heap.size v2 l := own_fr0 HO2.out ((Fr.refl No w2).alloc _)
       have HF3 := Lib.hid (U8.since F3 (U8.grown (Fr.refl _ _) O2 hg3))
       obtain ⟨A3, c3, rfl, hc3⟩ := own_shape ho3
       unfold Buf at ho3; rw [show (l ++ a5s).length = l.length + 8 by simp [a5s]] at ho3
       obtain ⟨g3, rfl⟩ := buf_some ho3 (by omega)
       have hL := lent_mk ho3
       have HL := Lib.hid hL
       have hsl : ∀ (n : Nat) (w : World), (Instr.slice 50 (.slice (some ⟨g3, 0, none⟩) n c3) none (some (.int .i64 (l.length : Int))) none).run Try.prog w = .ok (.slice (some ⟨g3, 0, none⟩) l.length c3) w := fun n w => slice_h0 .i64 l.length (by have := hL.cap; omega) w
       clear ho3 hg3 F3 O2 hL)
    | (at_builtin; go_loud (refine wpList_buf_append (by rfl) (.tmp 8) (.tmp 9) (by rfl) w.heap.size (.slice (some ⟨w.heap.size, 0, none⟩) 0 (l.length + 8)) [] (by rfl) HO.out A l.length c _ l (by rfl) (H.out.fr0 HF.out) (by have := HM.out; simp only [List.length_nil]; omega) HF.out.size ?_); intro v2 w2 ho2 hg2
       have HO2 : Hid (Buf w2 w.heap.size v2 l) := Lib.hid (by simpa using ho2)
       have HF2 := Lib.hid (U8.since HF.out (U8.grown (l := []) (Fr.refl _ _) HO.out hg2))
       clear ho2 hg2))
  go_ret
  exact ⟨g3, c3, rfl, HL.out, HL.out.base.1, HF3.out⟩
theorem run_str' {w : World} {A : Option Addr} {n c : Nat} {e : TypeId} {l : Bs} (hn : n = l.length) (h : Sl w e 1 A n (enc8 l)) : (convert 50 9 (.slice A n c)).run Try.prog w = .ok (.string (strB l)) w := by
  subst hn
  exact run_str h
theorem str_a5 (l : Bs) : strB l ++ ⟨#[165, 165, 165, 165, 165, 165, 165, 165]⟩ = strB (l ++ a5s) := by
  unfold strB a5s
  have := Go.ByteArray.mk_append_mk l [165, 165, 165, 165, 165, 165, 165, 165]
  exact this
set_option maxRecDepth 100000 in
set_option maxHeartbeats 1000000 in
theorem kept_any (base g c' : Nat) (A : Option Addr) (c : Nat) (e : TypeId) (l : Bs) (w : World) (h : LentAt w base g c' l) (hs : Sl w e 1 A l.length (enc8 l)) (hm : l.length ≤ 140737488355328) :
    Calls Try.prog 39 #[.slice (some ⟨g, 0, none⟩) l.length c', .slice A l.length c] w fun e w' => e = .returned (.bool true) ∧ Fr No w w' := by
  have H := Lib.hid h
  have HS := Lib.hid hs
  have HM := Lib.hid hm
  have hl0 : (0 : Int) ≤ (l.length : Int) := by omega
  have hl2 : (l.length : Int) ≤ 140737488355328 := by omega
  have hc : ¬ (c' : Int) < (l.length : Int) + 8 := by have := h.cap; omega
  have hc2 : ((l.length : Int) + 8) ≤ (c' : Int) := by omega
  have q1 := run_str (c := c') h.sl
  have q2 := run_str (c := c) hs
  have hsl := slice_h0 (g := g) (o := 0) (n := l.length) (c := c') .i64 (l.length + 8) h.cap
  rw [show (((l.length + 8 : Nat)) : Int) = (l.length : Int) + 8 by omega] at hsl
  have hL := Sl.of_own h.row
  have hla : (l ++ a5s).length = l.length + 8 := by simp [a5s]
  have hwl : IntKind.i64.wrap ((l.length : Int) + 8) = (l.length : Int) + 8 := IntWalk.i64_in _ (by omega)
  have hadd : ∀ w, (Op.stringOp .add (strB l) ⟨#[165, 165, 165, 165, 165, 165, 165, 165]⟩).run Try.prog w = .ok (.string (strB (l ++ a5s))) w := fun w => by
    rw [run_string_add_sum w _ _ (by have := strB_size l; have e : (⟨#[165, 165, 165, 165, 165, 165, 165, 165]⟩ : ByteArray).size = 8 := rfl; omega), str_a5]
  have HL := Lib.hid hL
  have HLA := Lib.hid hla
  clear h hs hm hL hla
  go_enter Try.func39, Try.ntmps39
  go_wp2
  clear q1 q2
  refine wp_region_o [(0, 0), (1, 0), (2, 1), (3, 0), (4, 0), (5, 1), (6, 0), (7, 1), (8, 0), (9, 0), (10, 0)] (by kernel_rfl) (by kernel_rfl) ?_
  repeat (first
    | (apply wpO_pure rfl rfl; (focus (intro w'; go_simp; (try rfl); done)); try simp only [Act.put, List.setIfInBounds_toArray, List.set_cons_zero, List.set_cons_succ])
    | (apply wpO_read rfl rfl; (focus (intro w' hf' hs'; (try simp only [World.size_drew, World.cell?_drew, World.size_alloc, World.size_setCell] at hs'); go_simp; (try rfl); done)); try simp only [Act.put, List.setIfInBounds_toArray, List.set_cons_zero, List.set_cons_succ])
    | (apply wpO_skip (by decide) rfl rfl; try simp only [Act.put, List.setIfInBounds_toArray, List.set_cons_zero, List.set_cons_succ]))
  apply wpO_read rfl rfl
  (focus (intro w' hf' hs'; have hrd := run_str' (l := l ++ a5s) (c := c') HLA.out.symm (HL.out.drew.fr0 hf'); go_simp; (try rfl); done))
  try simp only [Act.put, List.setIfInBounds_toArray, List.set_cons_zero, List.set_cons_succ]
  repeat (first
    | (apply wpO_pure rfl rfl; (focus (intro w'; go_simp; (try rfl); done)); try simp only [Act.put, List.setIfInBounds_toArray, List.set_cons_zero, List.set_cons_succ])
    | (apply wpO_read rfl rfl; (focus (intro w' hf' hs'; (try simp only [World.size_drew, World.cell?_drew, World.size_alloc, World.size_setCell] at hs'); go_simp; (try rfl); done)); try simp only [Act.put, List.setIfInBounds_toArray, List.set_cons_zero, List.set_cons_succ])
    | (apply wpO_skip (by decide) rfl rfl; try simp only [Act.put, List.setIfInBounds_toArray, List.set_cons_zero, List.set_cons_succ]))
  apply wpO_read rfl rfl
  (focus (intro w' hf' hs'; have hrd := run_str (c := c) (HS.out.drew.fr0 hf'); go_simp; (try rfl); done))
  try simp only [Act.put, List.setIfInBounds_toArray, List.set_cons_zero, List.set_cons_succ]
  repeat (first
    | (apply wpO_pure rfl rfl; (focus (intro w'; go_simp; (try rfl); done)); try simp only [Act.put, List.setIfInBounds_toArray, List.set_cons_zero, List.set_cons_succ])
    | (apply wpO_read rfl rfl; (focus (intro w' hf' hs'; (try simp only [World.size_drew, World.cell?_drew, World.size_alloc, World.size_setCell] at hs'); go_simp; (try rfl); done)); try simp only [Act.put, List.setIfInBounds_toArray, List.set_cons_zero, List.set_cons_succ])
    | (apply wpO_skip (by decide) rfl rfl; try simp only [Act.put, List.setIfInBounds_toArray, List.set_cons_zero, List.set_cons_succ]))
  refine wpO_nil ?_
  go_wp2
  go_ret
  exact ⟨rfl, (Fr.refl _ _).drew⟩
theorem setCell_row {w : World} {g i : Nat} {cur : Array Value} {t : TypeId} {u : Value} (h : w.heap[g]? = some (Obj.cells cur t (0, 0))) : (w.setCell ⟨g, i, none⟩ u).heap[g]? = some (Obj.cells (cur.setIfInBounds i u) t (0, 0)) := by
  simp [World.setCell, Array.getElem?_modify, h]
/-- a row that may be written -/
def Open8 (w : World) (g n : Nat) : Prop := ∃ cur, w.heap[g]? = some (.cells cur 5 (0, 0)) ∧ n ≤ cur.size
theorem Open8.cell {w : World} {g n : Nat} (h : Open8 w g n) (i : Nat) (hi : i < n) : (∃ u, w.cell? ⟨g, i, none⟩ = some u) ∧ w.frozen? ⟨g, i, none⟩ = false ∧ g < w.heap.size := by
  obtain ⟨cur, h1, h2⟩ := h
  refine ⟨⟨cur[i], ?_⟩, ?_, lt_of_heap h1⟩
  · rw [cell_of_row w g i cur _ _ h1]
    exact Array.getElem?_eq_getElem (by omega)
  · simp [World.frozen?, h1]
theorem Open8.set {w : World} {g n : Nat} (h : Open8 w g n) (i : Nat) (u : Value) : Open8 (w.setCell ⟨g, i, none⟩ u) g n := by
  obtain ⟨cur, h1, h2⟩ := h
  exact ⟨_, setCell_row h1, by simpa using h2⟩
theorem LentAt.open {w : World} {base g c : Nat} {l : Bs} (h : LentAt w base g c l) : Open8 w g l.length := by
  rcases h.row.2 with ⟨h0, _⟩ | ⟨g', cap, cur, hv, _, hg, hc, _, hs, _⟩
  · cases h0
  · injection hv with h1 h2 h3
    have h1 := Option.some.inj h1
    injection h1 with h1
    subst h1
    exact ⟨cur, hg, by omega⟩
set_option maxRecDepth 100000 in
set_option maxHeartbeats 1000000 in
theorem spoil_any (g c n : Nat) (w : World) (h : Open8 w g n) (hm : n ≤ maxLen) :
    Calls Try.prog 40 #[.slice (some ⟨g, 0, none⟩) n c] w fun e w' => (∃ v, e = .returned v) ∧ Fr (· = g) w w' := by
  have H := Lib.hid h
  have hn0 : (0 : Int) ≤ (n : Int) := by omega
  have hn2 : (n : Int) ≤ 9223372036854775807 := by simp only [maxLen] at hm; omega
  clear h hm
  go_enter Try.func40, Try.ntmps40
  go_wp2
  go_loopg [2] n (fun k v2 wr => ∃ i : Nat, i + k = n ∧ v2 = .int .i64 i ∧ Open8 wr g n ∧ Fr (· = g) w wr)
  case atStart => exact ⟨0, by omega, rfl, H.out, Fr.refl _ _⟩
  case round =>
    obtain ⟨i, hgi, rfl, ho, hf⟩ := hrel
    have HO := Lib.hid ho
    have HF := Lib.hid hf
    have hi0 : (0 : Int) ≤ (i : Int) := by omega
    clear ho hf
    by_cases hi : i < n
    · have hi1 : (i : Int) < (n : Int) := by omega
      obtain ⟨⟨u, q0⟩, q1, q2⟩ := HO.out.cell i hi
      go_wp2
      go_roundg (n - (i + 1))
      case measure => omega
      case rel => exact ⟨i + 1, by omega, by go_num, HO.out.set _ _, HF.out.setCell (p := ⟨g, i, none⟩) (.inl rfl) _⟩
    · have hi1 : (n : Int) ≤ (i : Int) := by omega
      go_wp2
      exact bodyPost_end (v := .tuple #[]) (by simp [results, Try.results40, go_sem]) rfl ⟨⟨_, rfl⟩, HF.out⟩
end Go.Proofs.Ytegogggemmcgdaa

/- codec: counts and texts that are read. -/
namespace Go.Proofs.Ytegogggemmcgdaa
open Go Go.RowKit Go.Proofs

def manyS (s : RS) (n most : Int) : RS × Int := (((numS s n).1.1 || decide ((numS s n).2 < 0) || decide (most < (numS s n).2), (numS s n).1.2), (numS s n).2)
theorem pipeR_bad {w : World} {p base : Nat} {s : RS} (h : PipeR w p base s) (hp : base ≤ p) (b2 : Bool) : PipeR (w.setCell ⟨p, 2, none⟩ (.bool b2)) p base (b2, s.2) := by
  obtain ⟨A, c, e, hB, hs, hA, hc, hm⟩ := h
  exact ⟨A, c, e, hB.set_ 2 (.bool b2), hs.under hA ((Fr.refl (fun i => i = p) w).setCell (p := ⟨p, 2, none⟩) (.inl rfl) (.bool b2)) (fun k hk => hk ▸ hp), hA, hc, hm⟩
theorem PipeR.cells {w : World} {p base : Nat} {s : RS} (h : PipeR w p base s) : w.cell? ⟨p, 1, none⟩ = some (.bool false) ∧ w.cell? ⟨p, 2, none⟩ = some (.bool s.1) ∧ p < w.heap.size ∧ ∀ i, w.frozen? ⟨p, i, none⟩ = false := by
  obtain ⟨A, c, e, hB, _⟩ := h
  exact ⟨hB.cell 1, hB.cell 2, hB.lt, hB.frozens⟩
theorem PipeR.ne {w : World} {p base b : Nat} {s : RS} {t : TypeId} {cs : List Value} (h : PipeR w p base s) (hB : Blk w b t cs) (ht : t ≠ 109) : b ≠ p := by
  obtain ⟨A, c, e, hP, _⟩ := h
  exact hB.ne_ hP ht
theorem Fr2.set {w w1 : World} {p b : Nat} (h : Fr2 p b w w1) (i : Nat) (u : Value) : Fr2 p b w (w1.setCell ⟨p, i, none⟩ u) := Fr.setCell h (p := ⟨p, i, none⟩) (.inl (.inl rfl)) u
theorem Fr2.trans {w w1 w2 : World} {p b : Nat} (h : Fr2 p b w w1) (h2 : Fr2 p b w1 w2) : Fr2 p b w w2 := Fr.trans h h2
set_option maxRecDepth 100000 in
set_option maxHeartbeats 2000000 in
theorem manyR_any (p base b o : Nat) (s : RS) (t : TypeId) (cs : List Value) (n most : Int) (w : World) (h : PipeR w p base s) (hp : base ≤ p) (hb : base ≤ b) (hB : Blk w b t cs) (hc : cs[o]? = some (.int .i64 n)) (hbp : b ≠ p) :
    Calls Try.prog 111 #[.pointer (some ⟨p, 0, none⟩), .pointer (some ⟨b, o, none⟩), .int .i64 most] w fun e w' => (∃ u, e = .returned u) ∧ PipeR w' p base (manyS s n most).1 ∧ Blk w' b t (cs.set o (.int .i64 (manyS s n most).2)) ∧ Fr2 p b w w' := by
  have hN := numR_int p base b o s t cs n w h hp hb hB hc hbp
  have hol := (List.getElem?_eq_some_iff.1 hc).1
  unfold manyS
  obtain ⟨⟨⟨bd, r1⟩, n1⟩, hs1⟩ : ∃ x, x = numS s n := ⟨_, rfl⟩
  rw [← hs1] at hN ⊢
  simp only at hN ⊢
  have HN := Lib.hid hN
  have HOL := Lib.hid hol
  clear h hB hc hN hs1 hol
  cases bd
  · by_cases h1 : n1 < 0
    · have E1 := Lib.hid (show (false || decide (n1 < 0) || decide (most < n1)) = true by simp [h1])
      go_enter Try.func111, Try.ntmps111
      go_wp2_with (go_at_call 94; refine HN.out.mono ?_; rintro e w1 ⟨⟨u1, rfl⟩, hp1, hb1, hf1⟩; have HP1 := Lib.hid hp1; have HB1 := Lib.hid hb1; have HF1 := Lib.hid hf1; have n0 := hb1.cell o; rw [List.getElem?_set_self HOL.out] at n0; have n1' := hb1.lt; obtain ⟨c1, c2, c3, c4⟩ := hp1.cells; simp only at c2; clear hp1 hb1 hf1)
      exact bodyPost_end (v := .tuple #[]) (by simp [results, Try.results111, go_sem]) rfl ⟨⟨_, rfl⟩, by simpa only [E1.out] using pipeR_bad HP1.out hp true, HB1.out.far (p := ⟨p, 2, none⟩) hbp _, HF1.out.set 2 _⟩
    · by_cases h2 : most < n1
      · have E1 := Lib.hid (show (false || decide (n1 < 0) || decide (most < n1)) = true by simp [h2])
        go_enter Try.func111, Try.ntmps111
        go_wp2_with (go_at_call 94; refine HN.out.mono ?_; rintro e w1 ⟨⟨u1, rfl⟩, hp1, hb1, hf1⟩; have HP1 := Lib.hid hp1; have HB1 := Lib.hid hb1; have HF1 := Lib.hid hf1; have n0 := hb1.cell o; rw [List.getElem?_set_self HOL.out] at n0; have n1' := hb1.lt; obtain ⟨c1, c2, c3, c4⟩ := hp1.cells; simp only at c2; clear hp1 hb1 hf1)
        exact bodyPost_end (v := .tuple #[]) (by simp [results, Try.results111, go_sem]) rfl ⟨⟨_, rfl⟩, by simpa only [E1.out] using pipeR_bad HP1.out hp true, HB1.out.far (p := ⟨p, 2, none⟩) hbp _, HF1.out.set 2 _⟩
      · have d1 : decide (n1 < 0) = false := by simp [h1]
        have d2 : decide (most < n1) = false := by simp [h2]
        have E1 := Lib.hid (show (false || decide (n1 < 0) || decide (most < n1)) = false by rw [d1, d2]; rfl)
        go_enter Try.func111, Try.ntmps111
        go_wp2_with (go_at_call 94; refine HN.out.mono ?_; rintro e w1 ⟨⟨u1, rfl⟩, hp1, hb1, hf1⟩; have HP1 := Lib.hid hp1; have HB1 := Lib.hid hb1; have HF1 := Lib.hid hf1; have n0 := hb1.cell o; rw [List.getElem?_set_self HOL.out] at n0; have n1' := hb1.lt; obtain ⟨c1, c2, c3, c4⟩ := hp1.cells; simp only at c2; clear hp1 hb1 hf1)
        exact bodyPost_end (v := .tuple #[]) (by simp [results, Try.results111, go_sem]) rfl ⟨⟨_, rfl⟩, by simpa only [E1.out] using pipeR_bad HP1.out hp false, HB1.out.far (p := ⟨p, 2, none⟩) hbp _, HF1.out.set 2 _⟩
  · have E1 := Lib.hid (show (true || decide (n1 < 0) || decide (most < n1)) = true by simp)
    go_enter Try.func111, Try.ntmps111
    go_wp2_with (go_at_call 94; refine HN.out.mono ?_; rintro e w1 ⟨⟨u1, rfl⟩, hp1, hb1, hf1⟩; have HP1 := Lib.hid hp1; have HB1 := Lib.hid hb1; have HF1 := Lib.hid hf1; have n0 := hb1.cell o; rw [List.getElem?_set_self HOL.out] at n0; have n1' := hb1.lt; obtain ⟨c1, c2, c3, c4⟩ := hp1.cells; simp only at c2; clear hp1 hb1 hf1)
    exact bodyPost_end (v := .tuple #[]) (by simp [results, Try.results111, go_sem]) rfl ⟨⟨_, rfl⟩, by simpa only [E1.out] using pipeR_bad HP1.out hp true, HB1.out.far (p := ⟨p, 2, none⟩) hbp _, HF1.out.set 2 _⟩
end Go.Proofs.Ytegogggemmcgdaa

/- codec: texts that are read. -/
namespace Go.Proofs.Ytegogggemmcgdaa
open Go Go.RowKit Go.Proofs

def textS (s : RS) (str : ByteArray) (most : Int) : RS × ByteArray :=
  if (manyS s str.size most).1.1 || decide (((manyS s str.size most).1.2.length : Int) < (manyS s str.size most).2) then ((true, (manyS s str.size most).1.2), str)
  else ((false, (manyS s str.size most).1.2.drop (manyS s str.size most).2.toNat), strB ((manyS s str.size most).1.2.take (manyS s str.size most).2.toNat))
theorem cutA_under {A : Option Addr} {lo c base : Nat} (h : ∀ a, A = some a → a.block < base) : ∀ a, cutA A lo c = some a → a.block < base := by
  intro a ha
  rcases A with _ | a0
  · rw [cutA_def] at ha
    split at ha <;> cases ha
  · rw [cutA_block ha]
    exact h _ rfl
theorem Fr2.new {w w1 : World} {p nb : Nat} (h : Fr2 p nb w w1) (b : Nat) (hn : w.heap.size ≤ nb) : Fr2 p b w w1 :=
  Fr.step (S := fun i => i = p ∨ i = b) (Fr.refl _ w) h fun i hi => by
    rcases hi with e | e
    · exact .inl (.inl e)
    · exact .inr (by omega)
set_option maxRecDepth 100000 in
set_option maxHeartbeats 4000000 in
theorem textR_any (p base b o : Nat) (s : RS) (t : TypeId) (cs : List Value) (str : ByteArray) (most : Int) (w : World) (h : PipeR w p base s) (hp : base ≤ p) (hb : base ≤ b) (hB : Blk w b t cs) (hc : cs[o]? = some (.string str)) (hbp : b ≠ p) :
    Calls Try.prog 96 #[.pointer (some ⟨p, 0, none⟩), .pointer (some ⟨b, o, none⟩), .int .i64 most] w fun e w' => (∃ u, e = .returned u) ∧ PipeR w' p base (textS s str most).1 ∧ Blk w' b t (cs.set o (.string (textS s str most).2)) ∧ Fr2 p b w w' := by
  have HB := Lib.hid hB
  have HC := Lib.hid hc
  have HPB := Lib.hid (show base ≤ w.heap.size by have := (PipeR.cells h).2.2.1; omega)
  have n0 := (hB.cell o).trans hc
  have n1 := hB.lt
  have hs0 : (0 : Int) ≤ (str.size : Int) := by omega
  have hwp : w.heap.size ≠ p := by have := (PipeR.cells h).2.2.1; omega
  have hwb : b ≠ w.heap.size := by have := hB.lt; omega
  have HN0 := Lib.hid (manyR_any p base w.heap.size 0 s 3 [.int .i64 str.size] str.size most _ (h.fr0 ((Fr.refl No w).alloc (Obj.cells #[.int .i64 str.size] 3))) hp HPB.out (Blk.new w 3 [.int .i64 str.size]) rfl hwp)
  have HFA := Lib.hid ((Fr.refl No w).alloc (Obj.cells #[.int .i64 str.size] 3))
  obtain ⟨nb, hnb⟩ : ∃ nb, nb = w.heap.size := ⟨_, rfl⟩
  rw [← hnb] at HN0 hwp hwb
  have HNB := Lib.hid hnb
  clear hnb h hB hc
  unfold textS
  have hpos : (manyS s str.size most).1.1 = false → 0 ≤ (manyS s str.size most).2 := fun hz => by
    unfold manyS at hz ⊢
    simp only [Bool.or_eq_false_iff, decide_eq_false_iff_not] at hz
    omega
  obtain ⟨⟨⟨bd, rest⟩, n2⟩, hs1⟩ : ∃ x, x = manyS s str.size most := ⟨_, rfl⟩
  rw [← hs1] at HN0 hpos ⊢
  simp only at HN0 hpos ⊢
  clear hs1
  cases bd
  · have hn2 := hpos rfl
    obtain ⟨k, rfl⟩ : ∃ k : Nat, n2 = (k : Int) := ⟨n2.toNat, by omega⟩
    by_cases hlt : (rest.length : Int) < (k : Int)
    · have E := Lib.hid (show (false || decide ((rest.length : Int) < (k : Int))) = true by simp [hlt])
      rw [E.out]
      rw [if_pos rfl, set_self HC.out]
      clear hpos
      go_enter Try.func96, Try.ntmps96
      go_wp2_with (rw [← HNB.out]; go_at_call 111; refine HN0.out.mono ?_; rintro e w1 ⟨⟨u1, rfl⟩, hp1, hb1, hf1⟩; have HP1 := Lib.hid hp1; have HF1 := Lib.hid hf1; have HN1 := Lib.hid hb1; have F1 : Fr2 p nb w w1 := (HFA.out.any _).trans hf1; have HF01 := Lib.hid F1; have B1 := HB.out.fr F1 (fun hk => by rcases hk with e | e; exact hbp e; exact hwb e); have HB1 := Lib.hid B1; have m0 := hb1.cell 0; have m1 := hb1.lt; obtain ⟨c1, c2, c3, c4⟩ := hp1.cells; simp only [List.set_cons_zero, List.getElem?_cons_zero] at m0 c2; clear hp1 hb1 hf1 F1 B1 n0 n1)
      obtain ⟨A, cc, ee, hBp, hsl, hA, hcap, hmx⟩ := HP1.out
      have c0 := hBp.cell 0
      simp only [List.getElem?_cons_zero] at c0
      have HSL := Lib.hid hsl
      have HA := Lib.hid hA
      have HCP := Lib.hid hcap
      have HMX := Lib.hid hmx
      clear hBp hsl hA hcap hmx
      refine wp_region_o [(0, 0), (1, 0), (2, 0), (3, 0), (4, 1), (5, 0), (6, 1), (7, 0), (8, 0), (9, 0), (10, 1), (11, 1), (12, 0), (13, 0), (14, 0), (15, 0), (16, 3)] (by kernel_rfl) (by kernel_rfl) ?_
      repeat (first
        | (apply wpO_pure rfl rfl; (focus (intro w'; go_simp; (try rfl); done)); try simp only [Act.put, List.setIfInBounds_toArray, List.set_cons_zero, List.set_cons_succ])
        | (apply wpO_read rfl rfl; (focus (intro w' hf' hs'; (try simp only [World.size_drew, World.cell?_drew, World.size_alloc, World.size_setCell] at hs'); go_simp; (try rfl); done)); try simp only [Act.put, List.setIfInBounds_toArray, List.set_cons_zero, List.set_cons_succ])
        | (apply wpO_skip (by decide) rfl rfl; try simp only [Act.put, List.setIfInBounds_toArray, List.set_cons_zero, List.set_cons_succ]))
      refine wpO_loud rfl fun K hK => ?_
      go_simp
      refine hK _ _ ?_
      clear hK K
      repeat (first
        | (apply wpO_pure rfl rfl; (focus (intro w'; go_simp; (try rfl); done)); try simp only [Act.put, List.setIfInBounds_toArray, List.set_cons_zero, List.set_cons_succ])
        | (apply wpO_read rfl rfl; (focus (intro w' hf' hs'; (try simp only [World.size_drew, World.cell?_drew, World.size_alloc, World.size_setCell] at hs'); go_simp; (try rfl); done)); try simp only [Act.put, List.setIfInBounds_toArray, List.set_cons_zero, List.set_cons_succ])
        | (apply wpO_skip (by decide) rfl rfl; try simp only [Act.put, List.setIfInBounds_toArray, List.set_cons_zero, List.set_cons_succ]))
      refine wpO_nil ?_
      go_wp2
      refine bodyPost_ret (v := .tuple #[]) (by simp [results, Try.results96, go_sem]) rfl ⟨⟨_, rfl⟩, ?_, ?_, ?_⟩
      · exact (pipeR_bad HP1.out hp true).fr0 ((Fr.refl No _).drew)
      · exact (HB1.out.far (p := ⟨p, 2, none⟩) hbp _).drew
      · exact ((HF01.out.new b (Nat.le_of_eq HNB.out.symm)).set 2 _).drew
    · have hd : decide ((rest.length : Int) < (k : Int)) = false := decide_eq_false hlt
      rw [hd, Bool.or_false, if_neg (by simp), Int.toNat_natCast]
      have hkl : k ≤ rest.length := by omega
      clear hpos
      go_enter Try.func96, Try.ntmps96
      go_wp2_with (rw [← HNB.out]; go_at_call 111; refine HN0.out.mono ?_; rintro e w1 ⟨⟨u1, rfl⟩, hp1, hb1, hf1⟩; have HP1 := Lib.hid hp1; have HF1 := Lib.hid hf1; have HN1 := Lib.hid hb1; have F1 : Fr2 p nb w w1 := (HFA.out.any _).trans hf1; have HF01 := Lib.hid F1; have B1 := HB.out.fr F1 (fun hk => by rcases hk with e | e; exact hbp e; exact hwb e); have HB1 := Lib.hid B1; have m0 := hb1.cell 0; have m1 := hb1.lt; obtain ⟨c1, c2, c3, c4⟩ := hp1.cells; simp only [List.set_cons_zero, List.getElem?_cons_zero] at m0 c2; clear hp1 hb1 hf1 F1 B1 n0 n1)
      obtain ⟨A, cc, ee, hBp, hsl, hA, hcap, hmx⟩ := HP1.out
      have c0 := hBp.cell 0
      simp only [List.getElem?_cons_zero] at c0
      have HSL := Lib.hid hsl
      have HA := Lib.hid hA
      have HCP := Lib.hid hcap
      have HMX := Lib.hid hmx
      clear hBp hsl hA hcap hmx
      refine wp_region_o [(0, 0), (1, 0), (2, 0), (3, 0), (4, 1), (5, 0), (6, 1), (7, 0), (8, 0), (9, 0), (10, 1), (11, 1), (12, 0), (13, 0), (14, 0), (15, 0), (16, 3)] (by kernel_rfl) (by kernel_rfl) ?_
      repeat (first
        | (apply wpO_pure rfl rfl; (focus (intro w'; go_simp; (try rfl); done)); try simp only [Act.put, List.setIfInBounds_toArray, List.set_cons_zero, List.set_cons_succ])
        | (apply wpO_read rfl rfl; (focus (intro w' hf' hs'; (try simp only [World.size_drew, World.cell?_drew, World.size_alloc, World.size_setCell] at hs'); go_simp; (try rfl); done)); try simp only [Act.put, List.setIfInBounds_toArray, List.set_cons_zero, List.set_cons_succ])
        | (apply wpO_skip (by decide) rfl rfl; try simp only [Act.put, List.setIfInBounds_toArray, List.set_cons_zero, List.set_cons_succ]))
      refine wpO_loud rfl fun K hK => ?_
      go_simp
      refine hK _ _ ?_
      clear hK K
      repeat (first
        | (apply wpO_pure rfl rfl; (focus (intro w'; go_simp; (try rfl); done)); try simp only [Act.put, List.setIfInBounds_toArray, List.set_cons_zero, List.set_cons_succ])
        | (apply wpO_read rfl rfl; (focus (intro w' hf' hs'; (try simp only [World.size_drew, World.cell?_drew, World.size_alloc, World.size_setCell] at hs'); go_simp; (try rfl); done)); try simp only [Act.put, List.setIfInBounds_toArray, List.set_cons_zero, List.set_cons_succ])
        | (apply wpO_skip (by decide) rfl rfl; try simp only [Act.put, List.setIfInBounds_toArray, List.set_cons_zero, List.set_cons_succ]))
      refine wpO_nil ?_
      go_wp2
      have P4 := (pipeR_bad HP1.out hp false).fr0 ((Fr.refl No _).drew)
      have B4 := (HB1.out.far (p := ⟨p, 2, none⟩) hbp (.bool false)).drew
      have N4 := (HN1.out.far (p := ⟨p, 2, none⟩) hwp (.bool false)).drew
      have F4 := ((HF01.out.new b (Nat.le_of_eq HNB.out.symm)).set 2 (.bool false)).drew
      clear c0 c1 c2 c3 c4 m0 m1 HSL HA HCP HMX
      generalize (w1.setCell ⟨p, 2, none⟩ (.bool false)).drew = W4 at P4 B4 N4 F4
      obtain ⟨A4, k4, e4, hP4, hsl, hA, hcap, hmx⟩ := P4
      simp only at hP4 hsl hcap hmx
      have c0 := hP4.cell 0
      have c3 := hP4.frozens
      have c4 := hP4.lt
      simp only [List.getElem?_cons_zero] at c0
      have m0 := N4.cell 0
      have m1 := N4.lt
      simp only [List.set_cons_zero, List.getElem?_cons_zero] at m0
      have q0 := (B4.cell o).trans HC.out
      have q1 := B4.frozens
      have q2 := B4.lt
      have hs1 := fun (w : World) => slice_h (A := A4) (n := rest.length) (c := k4) .i64 k (by omega) w
      simp only [Nat.sub_zero] at hs1
      obtain ⟨r2, hr2⟩ : ∃ r2, r2 = rest.drop k := ⟨_, rfl⟩
      have hr2l : rest.length - k = r2.length := by rw [hr2, List.length_drop]
      have hs2 := fun (w : World) => slice_l (A := A4) (n := rest.length) (c := k4) .i64 k hkl w
      rw [hr2l] at hs2
      have S1 := Lib.hid (sl_cut hsl (lo := 0) (hi := k) (c := k4) (by omega) hkl (by omega))
      rw [List.drop_zero, Nat.sub_zero] at S1
      have S2 := sl_cut hsl (lo := k) (hi := rest.length) (c := k4) hkl (Nat.le_refl _) hcap
      rw [hr2l, ← hr2, List.take_of_length_le (Nat.le_refl _)] at S2
      have HS2 := Lib.hid S2
      have HKT := Lib.hid (show k = (rest.take k).length by rw [List.length_take]; omega)
      have HR2 := Lib.hid hr2
      have HRL := Lib.hid hr2l
      have HP4 := Lib.hid hP4
      have HB4 := Lib.hid B4
      have HF4 := Lib.hid F4
      have HA4 := Lib.hid hA
      have HCP4 := Lib.hid hcap
      have HMX4 := Lib.hid hmx
      clear hP4 hsl hA hcap hmx N4 B4 F4 S2 hr2 hr2l hkl hlt hd
      refine wp_region_o [(0, 0), (1, 0), (2, 0), (3, 0), (4, 0), (5, 1), (6, 1), (7, 0), (8, 1), (9, 0), (10, 0), (11, 0), (12, 1), (13, 1), (14, 0), (15, 0), (16, 3), (17, 0), (18, 0), (19, 3)] (by kernel_rfl) (by kernel_rfl) ?_
      repeat (first
        | (apply wpO_pure rfl rfl; (focus (intro w'; go_simp; (try rfl); done)); try simp only [Act.put, List.setIfInBounds_toArray, List.set_cons_zero, List.set_cons_succ])
        | (apply wpO_read rfl rfl; (focus (intro w' hf' hs'; (try simp only [World.size_drew, World.cell?_drew, World.size_alloc, World.size_setCell] at hs'); go_simp; (try rfl); done)); try simp only [Act.put, List.setIfInBounds_toArray, List.set_cons_zero, List.set_cons_succ])
        | (apply wpO_skip (by decide) rfl rfl; try simp only [Act.put, List.setIfInBounds_toArray, List.set_cons_zero, List.set_cons_succ]))
      apply wpO_read rfl rfl
      (focus (intro w' hf' hs'; have hrd := run_str' (l := rest.take k) (c := k4) HKT.out (S1.out.drew.fr0 hf'); go_simp; (try rfl); done))
      try simp only [Act.put, List.setIfInBounds_toArray, List.set_cons_zero, List.set_cons_succ]
      repeat (first
        | (apply wpO_pure rfl rfl; (focus (intro w'; go_simp; (try rfl); done)); try simp only [Act.put, List.setIfInBounds_toArray, List.set_cons_zero, List.set_cons_succ])
        | (apply wpO_read rfl rfl; (focus (intro w' hf' hs'; (try simp only [World.size_drew, World.cell?_drew, World.size_alloc, World.size_setCell] at hs'); go_simp; (try rfl); done)); try simp only [Act.put, List.setIfInBounds_toArray, List.set_cons_zero, List.set_cons_succ])
        | (apply wpO_skip (by decide) rfl rfl; try simp only [Act.put, List.setIfInBounds_toArray, List.set_cons_zero, List.set_cons_succ]))
      refine wpO_loud rfl fun K hK => ?_
      go_simp
      refine hK _ _ ?_
      clear hK K
      repeat (first
        | (apply wpO_pure rfl rfl; (focus (intro w'; go_simp; (try rfl); done)); try simp only [Act.put, List.setIfInBounds_toArray, List.set_cons_zero, List.set_cons_succ])
        | (apply wpO_read rfl rfl; (focus (intro w' hf' hs'; (try simp only [World.size_drew, World.cell?_drew, World.size_alloc, World.size_setCell] at hs'); go_simp; (try rfl); done)); try simp only [Act.put, List.setIfInBounds_toArray, List.set_cons_zero, List.set_cons_succ])
        | (apply wpO_skip (by decide) rfl rfl; try simp only [Act.put, List.setIfInBounds_toArray, List.set_cons_zero, List.set_cons_succ]))
      refine wpO_loud rfl fun K hK => ?_
      go_simp
      refine hK _ _ ?_
      clear hK K
      repeat (first
        | (apply wpO_pure rfl rfl; (focus (intro w'; go_simp; (try rfl); done)); try simp only [Act.put, List.setIfInBounds_toArray, List.set_cons_zero, List.set_cons_succ])
        | (apply wpO_read rfl rfl; (focus (intro w' hf' hs'; (try simp only [World.size_drew, World.cell?_drew, World.size_alloc, World.size_setCell] at hs'); go_simp; (try rfl); done)); try simp only [Act.put, List.setIfInBounds_toArray, List.set_cons_zero, List.set_cons_succ])
        | (apply wpO_skip (by decide) rfl rfl; try simp only [Act.put, List.setIfInBounds_toArray, List.set_cons_zero, List.set_cons_succ]))
      refine wpO_nil ?_
      go_wp2
      have F5 : Fr2 p b w (W4.setCell ⟨b, o, none⟩ (.string (strB (rest.take k)))) := Fr.setCell HF4.out (p := ⟨b, o, none⟩) (.inl (.inr rfl)) _
      have F56 : Fr (fun i => i = p ∨ i = b) W4 ((W4.setCell ⟨b, o, none⟩ (.string (strB (rest.take k)))).setCell ⟨p, 0, none⟩ (.slice (cutA A4 k k4) r2.length (k4 - k))) := ((Fr.refl _ W4).setCell (p := ⟨b, o, none⟩) (.inl (.inr rfl)) _).setCell (p := ⟨p, 0, none⟩) (.inl (.inl rfl)) _
      refine bodyPost_end (v := .tuple #[]) (by simp [results, Try.results96, go_sem]) rfl ⟨⟨_, rfl⟩, ?_, ?_, ?_⟩
      · rw [← HR2.out]
        exact ⟨cutA A4 k k4, k4 - k, e4, ((HP4.out.far (p := ⟨b, o, none⟩) (fun e => hbp e.symm) _).set_ 0 _).drew, HS2.out.under (cutA_under HA4.out) F56.drew (fun i hi => by rcases hi with e | e; exact e ▸ hp; exact e ▸ hb), cutA_under HA4.out, by show r2.length ≤ k4 - k; have := HCP4.out; have := HRL.out; omega, by show r2.length ≤ maxLen; have := HMX4.out; have := HRL.out; omega⟩
      · exact ((HB4.out.set_ o _).far (p := ⟨p, 0, none⟩) hbp _).drew
      · exact (F5.set 0 _).drew
  · rw [Bool.true_or, if_pos rfl, set_self HC.out]
    clear hpos
    go_enter Try.func96, Try.ntmps96
    go_wp2_with (rw [← HNB.out]; go_at_call 111; refine HN0.out.mono ?_; rintro e w1 ⟨⟨u1, rfl⟩, hp1, hb1, hf1⟩; have HP1 := Lib.hid hp1; have HF1 := Lib.hid hf1; have HN1 := Lib.hid hb1; have F1 : Fr2 p nb w w1 := (HFA.out.any _).trans hf1; have HF01 := Lib.hid F1; have B1 := HB.out.fr F1 (fun hk => by rcases hk with e | e; exact hbp e; exact hwb e); have HB1 := Lib.hid B1; have m0 := hb1.cell 0; have m1 := hb1.lt; obtain ⟨c1, c2, c3, c4⟩ := hp1.cells; simp only [List.set_cons_zero, List.getElem?_cons_zero] at m0 c2; clear hp1 hb1 hf1 F1 B1 n0 n1)
    obtain ⟨A, cc, ee, hBp, hsl, hA, hcap, hmx⟩ := HP1.out
    have c0 := hBp.cell 0
    simp only [List.getElem?_cons_zero] at c0
    have HSL := Lib.hid hsl
    have HA := Lib.hid hA
    have HCP := Lib.hid hcap
    have HMX := Lib.hid hmx
    clear hBp hsl hA hcap hmx
    refine wp_region_o [(0, 0), (1, 0), (2, 0), (3, 0), (4, 1), (5, 0), (6, 1), (7, 0), (8, 0), (9, 0), (10, 1), (11, 1), (12, 0), (13, 0), (14, 0), (15, 0), (16, 3)] (by kernel_rfl) (by kernel_rfl) ?_
    repeat (first
      | (apply wpO_pure rfl rfl; (focus (intro w'; go_simp; (try rfl); done)); try simp only [Act.put, List.setIfInBounds_toArray, List.set_cons_zero, List.set_cons_succ])
      | (apply wpO_read rfl rfl; (focus (intro w' hf' hs'; (try simp only [World.size_drew, World.cell?_drew, World.size_alloc, World.size_setCell] at hs'); go_simp; (try rfl); done)); try simp only [Act.put, List.setIfInBounds_toArray, List.set_cons_zero, List.set_cons_succ])
      | (apply wpO_skip (by decide) rfl rfl; try simp only [Act.put, List.setIfInBounds_toArray, List.set_cons_zero, List.set_cons_succ]))
    refine wpO_loud rfl fun K hK => ?_
    go_simp
    refine hK _ _ ?_
    clear hK K
    repeat (first
      | (apply wpO_pure rfl rfl; (focus (intro w'; go_simp; (try rfl); done)); try simp only [Act.put, List.setIfInBounds_toArray, List.set_cons_zero, List.set_cons_succ])
      | (apply wpO_read rfl rfl; (focus (intro w' hf' hs'; (try simp only [World.size_drew, World.cell?_drew, World.size_alloc, World.size_setCell] at hs'); go_simp; (try rfl); done)); try simp only [Act.put, List.setIfInBounds_toArray, List.set_cons_zero, List.set_cons_succ])
      | (apply wpO_skip (by decide) rfl rfl; try simp only [Act.put, List.setIfInBounds_toArray, List.set_cons_zero, List.set_cons_succ]))
    refine wpO_nil ?_
    go_wp2
    refine bodyPost_ret (v := .tuple #[]) (by simp [results, Try.results96, go_sem]) rfl ⟨⟨_, rfl⟩, ?_, ?_, ?_⟩
    · exact (pipeR_bad HP1.out hp true).fr0 ((Fr.refl No _).drew)
    · exact (HB1.out.far (p := ⟨p, 2, none⟩) hbp _).drew
    · exact ((HF01.out.new b (Nat.le_of_eq HNB.out.symm)).set 2 _).drew
end Go.Proofs.Ytegogggemmcgdaa

/- codec: truths that are read. -/
namespace Go.Proofs.Ytegogggemmcgdaa
open Go Go.RowKit Go.Proofs

def truthS (s : RS) (is : Bool) : RS × Bool :=
  match s.2 with
  | [] => ((true, []), is)
  | b :: r => if s.1 || decide (1 < b.toNat) then ((true, b :: r), is) else ((false, r), b == 1)
theorem some_of' {w : World} {A : Option Addr} {e : TypeId} {l : Bs} (h : Sl w e 1 A l.length (enc8 l)) (hn : 0 < l.length) : ∃ g o, A = some ⟨g, o, none⟩ := by
  obtain ⟨b, o, hA, _⟩ := h.cells hn
  exact ⟨b, o, hA⟩
theorem sl_lt {w : World} {g o n : Nat} {e : TypeId} {xs : List Value} {sz : Nat} (h : Sl w e sz (some ⟨g, o, none⟩) n xs) (hn : 0 < n) : g < w.heap.size := by
  obtain ⟨b, o', hA, hb, _⟩ := h.cells hn
  have hA := Option.some.inj hA
  injection hA with h1 h2
  omega
set_option maxRecDepth 100000 in
set_option maxHeartbeats 4000000 in
theorem truthR_any (p base b o : Nat) (s : RS) (t : TypeId) (cs : List Value) (is : Bool) (w : World) (h : PipeR w p base s) (hp : base ≤ p) (hb : base ≤ b) (hB : Blk w b t cs) (hc : cs[o]? = some (.bool is)) (hbp : b ≠ p) :
    Calls Try.prog 112 #[.pointer (some ⟨p, 0, none⟩), .pointer (some ⟨b, o, none⟩)] w fun e w' => (∃ u, e = .returned u) ∧ PipeR w' p base (truthS s is).1 ∧ Blk w' b t (cs.set o (.bool (truthS s is).2)) ∧ Fr2 p b w w' := by
  have HP := Lib.hid h
  have HB := Lib.hid hB
  have HC := Lib.hid hc
  obtain ⟨bd, rest⟩ := s
  obtain ⟨A, cc, e, hP, hsl, hA, hcap, hmx⟩ := h
  simp only at hP hsl hcap hmx
  have c0 := hP.cell 0
  have c1 := hP.cell 1
  have c2 := hP.cell 2
  have c3 := hP.frozens
  have c4 := hP.lt
  simp only [List.getElem?_cons_zero, List.getElem?_cons_succ] at c0 c1 c2
  have HSL := Lib.hid hsl
  have HA := Lib.hid hA
  have HCP := Lib.hid hcap
  have HMX := Lib.hid hmx
  have hl0 : (0 : Int) ≤ (rest.length : Int) := by omega
  clear hB hc hP hsl hA hcap hmx
  cases rest with
  | nil =>
    have e : truthS (bd, []) is = ((true, []), is) := rfl
    rw [e, set_self HC.out]
    clear e
    have hlz : ((([] : Bs).length : Int) == 0) = true := rfl
    cases bd
    · skip
      go_enter Try.func112, Try.ntmps112
      go_wp2
      refine bodyPost_ret (v := .tuple #[]) (by simp [results, Try.results112, go_sem]) rfl ⟨⟨_, rfl⟩, ?_, ?_, ?_⟩
      · exact pipeR_bad HP.out hp true
      · exact HB.out.far (p := ⟨p, 2, none⟩) hbp _
      · exact Fr2.set (Fr.refl _ w) 2 _
    · skip
      go_enter Try.func112, Try.ntmps112
      go_wp2
      refine bodyPost_ret (v := .tuple #[]) (by simp [results, Try.results112, go_sem]) rfl ⟨⟨_, rfl⟩, ?_, ?_, ?_⟩
      · exact pipeR_bad HP.out hp true
      · exact HB.out.far (p := ⟨p, 2, none⟩) hbp _
      · exact Fr2.set (Fr.refl _ w) 2 _
  | cons x r =>
    by_cases hbad : (bd || decide (1 < x.toNat)) = true
    · have e : truthS (bd, x :: r) is = ((true, x :: r), is) := by simp only [truthS, hbad, if_true]
      rw [e, set_self HC.out]
      clear e
      cases bd
      · have hx : 1 < x.toNat := by simpa using hbad
        obtain ⟨g, oo, hAg⟩ := some_of' HSL.out (by simp)
        subst hAg
        have k0 := at8_cell HSL.out rfl 0 (by simp)
        rw [Nat.add_zero, at8_def, List.getD_cons_zero] at k0
        have hxi : (1 : Int) < (x.toNat : Int) := by omega
        have kg := sl_lt HSL.out (by simp)
        clear hbad hx
        go_enter Try.func112, Try.ntmps112
        go_wp2
        refine bodyPost_ret (v := .tuple #[]) (by simp [results, Try.results112, go_sem]) rfl ⟨⟨_, rfl⟩, ?_, ?_, ?_⟩
        · exact pipeR_bad HP.out hp true
        · exact HB.out.far (p := ⟨p, 2, none⟩) hbp _
        · exact Fr2.set (Fr.refl _ w) 2 _
      · clear hbad
        go_enter Try.func112, Try.ntmps112
        go_wp2
        refine bodyPost_ret (v := .tuple #[]) (by simp [results, Try.results112, go_sem]) rfl ⟨⟨_, rfl⟩, ?_, ?_, ?_⟩
        · exact pipeR_bad HP.out hp true
        · exact HB.out.far (p := ⟨p, 2, none⟩) hbp _
        · exact Fr2.set (Fr.refl _ w) 2 _
    · have hbd : bd = false ∧ x.toNat ≤ 1 := by
        simp only [Bool.or_eq_true, decide_eq_true_eq, not_or, Bool.not_eq_true] at hbad
        exact ⟨hbad.1, by omega⟩
      obtain ⟨rfl, hx⟩ := hbd
      have e1 : truthS (false, x :: r) is = ((false, r), x == 1) := by simp only [truthS, hbad]; rfl
      rw [e1]
      obtain ⟨g, oo, hAg⟩ := some_of' HSL.out (by simp)
      subst hAg
      have k0 := at8_cell HSL.out rfl 0 (by simp)
      rw [Nat.add_zero, at8_def, List.getD_cons_zero] at k0
      have hxi : ¬ (1 : Int) < (x.toNat : Int) := by omega
      have kg := sl_lt HSL.out (by simp)
      have hxe : ((x.toNat : Int) == 1) = (x == 1) := by
        rw [Bool.eq_iff_iff]
        simp only [beq_iff_eq]
        constructor
        · intro h; exact UInt8.toNat_inj.1 (by have : (1 : UInt8).toNat = 1 := rfl; omega)
        · rintro rfl; rfl
      have q0 := (HB.out.cell o).trans HC.out
      have q1 := HB.out.frozens
      have q2 := HB.out.lt
      have hs2 : ∀ w, (Instr.slice 50 (.slice (some ⟨g, oo, none⟩) (x :: r).length cc) (some (.int .i64 1)) none none).run Try.prog w = .ok (.slice (cutA (some ⟨g, oo, none⟩) 1 cc) r.length (cc - 1)) w := fun w => slice_l (A := some ⟨g, oo, none⟩) (n := (x :: r).length) (c := cc) .i64 1 (by simp) w
      have hS2 := sl_cut HSL.out (lo := 1) (hi := (x :: r).length) (c := cc) (by simp) (Nat.le_refl _) HCP.out
      have HS2 : Hid (Sl w e 1 (cutA (some ⟨g, oo, none⟩) 1 cc) r.length (enc8 r)) := Lib.hid (by simpa using hS2)
      clear hbad hx e1 hS2
      go_enter Try.func112, Try.ntmps112
      go_wp2
      have P4 := pipeR_bad HP.out hp false
      have B4 := HB.out.far (p := ⟨p, 2, none⟩) hbp (.bool false)
      have F4 : Fr2 p b w (w.setCell ⟨p, 2, none⟩ (.bool false)) := Fr2.set (Fr.refl _ w) 2 _
      clear c0 c1 c2 c3 c4 k0 kg q0 q1 q2 HSL HA HCP HMX HS2 hs2
      generalize w.setCell ⟨p, 2, none⟩ (.bool false) = W4 at P4 B4 F4
      obtain ⟨A4, k4, e4, hP4, hsl, hA, hcap, hmx⟩ := P4
      simp only at hP4 hsl hcap hmx
      obtain ⟨g4, o4, hAg4⟩ := some_of' hsl (by simp)
      subst hAg4
      have k0 := at8_cell hsl rfl 0 (by simp)
      rw [Nat.add_zero, at8_def, List.getD_cons_zero] at k0
      have kg := sl_lt hsl (by simp)
      have c0 := hP4.cell 0
      have c3 := hP4.frozens
      have c4 := hP4.lt
      simp only [List.getElem?_cons_zero] at c0
      have q0 := (B4.cell o).trans HC.out
      have q1 := B4.frozens
      have q2 := B4.lt
      have hs2 : ∀ w, (Instr.slice 50 (.slice (some ⟨g4, o4, none⟩) (x :: r).length k4) (some (.int .i64 1)) none none).run Try.prog w = .ok (.slice (cutA (some ⟨g4, o4, none⟩) 1 k4) r.length (k4 - 1)) w := fun w => slice_l (A := some ⟨g4, o4, none⟩) (n := (x :: r).length) (c := k4) .i64 1 (by simp) w
      have hS2 := sl_cut hsl (lo := 1) (hi := (x :: r).length) (c := k4) (by simp) (Nat.le_refl _) hcap
      have HS2 : Hid (Sl W4 e4 1 (cutA (some ⟨g4, o4, none⟩) 1 k4) r.length (enc8 r)) := Lib.hid (by simpa using hS2)
      have HP4 := Lib.hid hP4
      have HB4 := Lib.hid B4
      have HF4 := Lib.hid F4
      have HA4 := Lib.hid hA
      have HCP4 := Lib.hid hcap
      have HMX4 := Lib.hid hmx
      obtain ⟨A5, hA5⟩ : ∃ A5, A5 = cutA (some ⟨g4, o4, none⟩) 1 k4 := ⟨_, rfl⟩
      have HA5 : Hid (∀ a, A5 = some a → a.block < base) := Lib.hid (by rw [hA5]; exact cutA_under hA)
      rw [← hA5] at hs2 HS2
      obtain ⟨rl, hrl⟩ : ∃ rl, rl = (x :: r) := ⟨_, rfl⟩
      rw [← hrl] at c0 hs2
      have hrl0 : 0 < rl.length := by rw [hrl]; simp
      have hrl1 : (0 : Int) < (rl.length : Int) := by omega
      have HRL := Lib.hid (show rl.length = r.length + 1 by rw [hrl]; rfl)
      clear hP4 hsl hA hcap hmx B4 F4 hS2 hA5 hrl
      refine wp_region_o [(0, 0), (1, 0), (2, 0), (3, 0), (4, 0), (5, 1), (6, 0), (7, 1), (8, 0), (9, 0), (10, 0), (11, 0), (12, 1), (13, 0), (14, 0), (15, 3), (16, 0), (17, 0), (18, 3)] (by kernel_rfl) (by kernel_rfl) ?_
      repeat (first
        | (apply wpO_pure rfl rfl; (focus (intro w'; go_simp; (try rfl); done)); try simp only [Act.put, List.setIfInBounds_toArray, List.set_cons_zero, List.set_cons_succ])
        | (apply wpO_read rfl rfl; (focus (intro w' hf' hs'; (try simp only [World.size_drew, World.cell?_drew, World.size_alloc, World.size_setCell] at hs'); go_simp; (try rfl); done)); try simp only [Act.put, List.setIfInBounds_toArray, List.set_cons_zero, List.set_cons_succ])
        | (apply wpO_skip (by decide) rfl rfl; try simp only [Act.put, List.setIfInBounds_toArray, List.set_cons_zero, List.set_cons_succ]))
      refine wpO_loud rfl fun K hK => ?_
      go_simp
      refine hK _ _ ?_
      clear hK K
      repeat (first
        | (apply wpO_pure rfl rfl; (focus (intro w'; go_simp; (try rfl); done)); try simp only [Act.put, List.setIfInBounds_toArray, List.set_cons_zero, List.set_cons_succ])
        | (apply wpO_read rfl rfl; (focus (intro w' hf' hs'; (try simp only [World.size_drew, World.cell?_drew, World.size_alloc, World.size_setCell] at hs'); go_simp; (try rfl); done)); try simp only [Act.put, List.setIfInBounds_toArray, List.set_cons_zero, List.set_cons_succ])
        | (apply wpO_skip (by decide) rfl rfl; try simp only [Act.put, List.setIfInBounds_toArray, List.set_cons_zero, List.set_cons_succ]))
      refine wpO_loud rfl fun K hK => ?_
      go_simp
      refine hK _ _ ?_
      clear hK K
      repeat (first
        | (apply wpO_pure rfl rfl; (focus (intro w'; go_simp; (try rfl); done)); try simp only [Act.put, List.setIfInBounds_toArray, List.set_cons_zero, List.set_cons_succ])
        | (apply wpO_read rfl rfl; (focus (intro w' hf' hs'; (try simp only [World.size_drew, World.cell?_drew, World.size_alloc, World.size_setCell] at hs'); go_simp; (try rfl); done)); try simp only [Act.put, List.setIfInBounds_toArray, List.set_cons_zero, List.set_cons_succ])
        | (apply wpO_skip (by decide) rfl rfl; try simp only [Act.put, List.setIfInBounds_toArray, List.set_cons_zero, List.set_cons_succ]))
      refine wpO_nil ?_
      go_wp2
      have F5 : Fr2 p b w (W4.setCell ⟨b, o, none⟩ (.bool (x == 1))) := Fr.setCell HF4.out (p := ⟨b, o, none⟩) (.inl (.inr rfl)) _
      have F56 : Fr (fun i => i = p ∨ i = b) W4 ((W4.setCell ⟨b, o, none⟩ (.bool (x == 1))).setCell ⟨p, 0, none⟩ (.slice A5 r.length (k4 - 1))) := ((Fr.refl _ W4).setCell (p := ⟨b, o, none⟩) (.inl (.inr rfl)) _).setCell (p := ⟨p, 0, none⟩) (.inl (.inl rfl)) _
      refine bodyPost_end (v := .tuple #[]) (by simp [results, Try.results112, go_sem]) rfl ⟨⟨_, rfl⟩, ?_, ?_, ?_⟩
      · exact ⟨A5, k4 - 1, e4, ((HP4.out.far (p := ⟨b, o, none⟩) (fun e => hbp e.symm) _).set_ 0 _).drew, HS2.out.under HA5.out F56.drew (fun i hi => by rcases hi with e | e; exact e ▸ hp; exact e ▸ hb), HA5.out, by show r.length ≤ k4 - 1; have := HCP4.out; simp only [List.length_cons] at this; omega, by show r.length ≤ maxLen; have := HMX4.out; simp only [List.length_cons] at this; omega⟩
      · exact ((HB4.out.set_ o _).far (p := ⟨p, 0, none⟩) hbp _).drew
      · exact (F5.set 0 _).drew
end Go.Proofs.Ytegogggemmcgdaa

/- codec: rows of numbers that are written. -/
namespace Go.Proofs.Ytegogggemmcgdaa
open Go Go.RowKit Go.Proofs

abbrev ptrV (q : Nat × Nat) : Value := .pointer (some ⟨q.1, q.2, none⟩)
def NsRel (w0 : World) (p base : Nat) (l : Bs) (bad : Bool) (ns : List Int) (g : Nat) (v8 : Value) (wr : World) : Prop :=
  ∃ (i : Nat) (v : Value), i + g = ns.length ∧ v8 = .int .i64 i ∧ PipeW wr p base v (l ++ numB (ns.take i)) bad ∧ FrP p base w0 wr
set_option maxRecDepth 100000 in
set_option maxHeartbeats 2000000 in
theorem numsW_any (p base : Nat) (v : Value) (l : Bs) (bad : Bool) (g c : Nat) (t : TypeId) (qs : List (Nat × Nat)) (ns : List Int) (w : World) (h : PipeW w p base v l bad) (hg : Src w g t (qs.map ptrV)) (hn : qs.length = ns.length)
    (hq : ∀ (i : Nat) (q : Nat × Nat) (n : Int), qs[i]? = some q → ns[i]? = some n → ∃ t cs, Src w q.1 t cs ∧ cs[q.2]? = some (.int .i64 n)) (hl : l.length + 8 * ns.length ≤ 150000000000000) :
    Calls Try.prog 95 #[.pointer (some ⟨p, 0, none⟩), .slice (some ⟨g, 0, none⟩) ns.length c] w fun e w' => (∃ u, e = .returned u) ∧ ∃ v', PipeW w' p base v' (l ++ numB ns) bad ∧ FrP p base w w' := by
  have H := Lib.hid h
  have HG := Lib.hid hg
  have HN := Lib.hid hn
  have HQ := Lib.hid hq
  have HL := Lib.hid hl
  have hn0 : (0 : Int) ≤ (ns.length : Int) := by omega
  have hn1 : (ns.length : Int) ≤ 9223372036854775807 := by omega
  clear h hg hn hq hl
  go_enter Try.func95, Try.ntmps95
  go_wp2
  go_loopg [8] ns.length (fun k v8 wr => NsRel w p base l bad ns k v8 wr)
  case atStart => exact ⟨0, v, by omega, rfl, by simpa [numB_nil] using H.out, FrP.refl _ _ _⟩
  case round =>
    obtain ⟨i, u, hgi, rfl, hp, hf⟩ := hrel
    have HP := Lib.hid hp
    have HF := Lib.hid hf
    have hi0 : (0 : Int) ≤ (i : Int) := by omega
    clear hp hf
    by_cases hi : i < ns.length
    · have hi1 : (i : Int) < (ns.length : Int) := by omega
      obtain ⟨n, hx⟩ : ∃ n, ns[i]? = some n := ⟨_, List.getElem?_eq_getElem hi⟩
      obtain ⟨⟨qb, qo⟩, hqx⟩ : ∃ q, qs[i]? = some q := ⟨_, List.getElem?_eq_getElem (by have := HN.out; omega)⟩
      obtain ⟨t', cs, hs, hcn⟩ := HQ.out i _ n hqx hx
      have HS := Lib.hid (hs.frp H.out HF.out)
      have HCN := Lib.hid hcn
      have G1 := (HG.out.frp H.out HF.out).blk
      have g0 := G1.cell i
      rw [List.getElem?_map, hqx] at g0
      simp only [Option.map_some] at g0
      have g1 := G1.lt
      have HT := Lib.hid (numB_take hx)
      have hle : (l ++ numB (ns.take i)).length ≤ 150000000000000 := by
        rw [List.length_append, numB_length, List.length_take]
        have := HL.out
        omega
      have HLE := Lib.hid hle
      clear hx hqx hs hcn G1 hle
      go_wp2_with (go_at_call 110; refine (numW_i64 p base u _ bad qb qo n _ HP.out ((HS.out.blk.cell qo).trans HCN.out) HS.out.blk.lt HLE.out).mono ?_; rintro e w2 ⟨⟨u2, rfl⟩, v2, hp2, hf2⟩; have HP2 := Lib.hid hp2; have HF2 := Lib.hid (HF.out.trans hf2); clear hp2 hf2)
      go_roundg (ns.length - (i + 1))
      case measure => omega
      case rel => exact ⟨i + 1, v2, by omega, by go_num, by rw [HT.out, ← List.append_assoc]; exact HP2.out, HF2.out⟩
    · have hi1 : (ns.length : Int) ≤ (i : Int) := by omega
      obtain rfl : i = ns.length := by omega
      have hP := HP.out
      rw [List.take_length] at hP
      have HP' := Lib.hid hP
      clear hP
      go_wp2
      exact bodyPost_end (v := .tuple #[]) (by simp [results, Try.results95, go_sem]) rfl ⟨⟨_, rfl⟩, u, HP'.out, HF.out⟩
end Go.Proofs.Ytegogggemmcgdaa

/- codec: rows of numbers that are read. -/
namespace Go.Proofs.Ytegogggemmcgdaa
open Go Go.RowKit Go.Proofs

def numsS : RS → List Int → RS × List Int
  | s, [] => (s, [])
  | s, n :: ns => ((numsS (numS s n).1 ns).1, (numS s n).2 :: (numsS (numS s n).1 ns).2)
theorem numsS_take {ns : List Int} {i : Nat} {n : Int} (h : ns[i]? = some n) : ∀ s : RS, (numsS s (ns.take (i + 1))).1 = (numS (numsS s (ns.take i)).1 n).1 ∧ (numsS s (ns.take (i + 1))).2 = (numsS s (ns.take i)).2 ++ [(numS (numsS s (ns.take i)).1 n).2] := by
  induction ns generalizing i with
  | nil => simp at h
  | cons a l ih =>
    intro s
    cases i with
    | zero =>
      simp only [List.getElem?_cons_zero, Option.some.injEq] at h
      subst h
      simp [numsS]
    | succ i =>
      simp only [List.getElem?_cons_succ] at h
      simp only [List.take_succ_cons, numsS]
      obtain ⟨h1, h2⟩ := ih h (numS s a).1
      exact ⟨h1, by rw [h2]; rfl⟩
theorem numsS_length : ∀ (ns : List Int) (s : RS), (numsS s ns).2.length = ns.length
  | [], _ => rfl
  | n :: ns, s => by simp only [numsS, List.length_cons, numsS_length ns]
def setAll : List Value → List Nat → List Int → List Value
  | cs, o :: os, n :: ns => setAll (cs.set o (.int .i64 n)) os ns
  | cs, _, _ => cs
theorem setAll_nil (cs : List Value) (os : List Nat) : setAll cs os [] = cs := by cases os <;> rfl
theorem setAll_snoc : ∀ (cs : List Value) (os : List Nat) (ns : List Int) (i : Nat) (o : Nat) (n : Int), os[i]? = some o → ns.length = i → setAll cs (os.take (i + 1)) (ns ++ [n]) = (setAll cs (os.take i) ns).set o (.int .i64 n)
  | cs, [], ns, i, o, n, ho, _ => by simp at ho
  | cs, a :: os, [], i, o, n, ho, hl => by
    subst hl
    simp only [List.length_nil, List.getElem?_cons_zero, Option.some.injEq] at ho
    subst ho
    rfl
  | cs, a :: os, m :: ns, i, o, n, ho, hl => by
    cases i with
    | zero => simp at hl
    | succ i =>
      simp only [List.getElem?_cons_succ] at ho
      simp only [List.take_succ_cons, List.cons_append, setAll]
      exact setAll_snoc _ os ns i o n ho (by simpa using hl)
theorem setAll_get : ∀ (cs : List Value) (os : List Nat) (ns : List Int) (q : Nat), q ∉ os → (setAll cs os ns)[q]? = cs[q]?
  | cs, [], ns, q, _ => by cases ns <;> rfl
  | cs, a :: os, [], q, _ => rfl
  | cs, a :: os, n :: ns, q, h => by
    simp only [List.mem_cons, not_or] at h
    rw [setAll, setAll_get _ os ns q h.2, List.getElem?_set_ne (fun e => h.1 e.symm)]
def NsRRel (w0 : World) (p base xb : Nat) (t : TypeId) (cs : List Value) (os : List Nat) (s : RS) (ns : List Int) (g : Nat) (v8 : Value) (wr : World) : Prop :=
  ∃ i : Nat, i + g = ns.length ∧ v8 = .int .i64 i ∧ PipeR wr p base (numsS s (ns.take i)).1 ∧ Blk wr xb t (setAll cs (os.take i) (numsS s (ns.take i)).2) ∧ Fr2 p xb w0 wr
set_option maxRecDepth 100000 in
set_option maxHeartbeats 2000000 in
theorem numsR_any (p base xb g c : Nat) (s : RS) (t tp : TypeId) (cs : List Value) (os : List Nat) (ns : List Int) (w : World) (h : PipeR w p base s) (hp : base ≤ p) (hb : base ≤ xb) (hB : Blk w xb t cs) (hbp : xb ≠ p) (hg : Blk w g tp (os.map fun o => ptrV (xb, o))) (hgp : g ≠ p) (hgx : g ≠ xb)
    (hn : os.length = ns.length) (hnd : os.Nodup) (hq : ∀ (i o : Nat) (n : Int), os[i]? = some o → ns[i]? = some n → cs[o]? = some (.int .i64 n)) (hl : ns.length ≤ 1000) :
    Calls Try.prog 95 #[.pointer (some ⟨p, 0, none⟩), .slice (some ⟨g, 0, none⟩) ns.length c] w fun e w' => (∃ u, e = .returned u) ∧ PipeR w' p base (numsS s ns).1 ∧ Blk w' xb t (setAll cs os (numsS s ns).2) ∧ Fr2 p xb w w' := by
  have H := Lib.hid h
  have HB := Lib.hid hB
  have HG := Lib.hid hg
  have HN := Lib.hid hn
  have HD := Lib.hid hnd
  have HQ := Lib.hid hq
  have hn0 : (0 : Int) ≤ (ns.length : Int) := by omega
  have hn1 : (ns.length : Int) ≤ 1000 := by omega
  clear h hB hg hn hnd hq hl
  go_enter Try.func95, Try.ntmps95
  go_wp2
  go_loopg [8] ns.length (fun k v8 wr => NsRRel w p base xb t cs os s ns k v8 wr)
  case atStart => exact ⟨0, by omega, rfl, by simpa [numsS] using H.out, by simpa [numsS, setAll_nil] using HB.out, Fr.refl _ _⟩
  case round =>
    obtain ⟨i, hgi, rfl, hpr, hbl, hf⟩ := hrel
    have HP := Lib.hid hpr
    have HBL := Lib.hid hbl
    have HF := Lib.hid hf
    have hi0 : (0 : Int) ≤ (i : Int) := by omega
    clear hpr hbl hf
    by_cases hi : i < ns.length
    · have hi1 : (i : Int) < (ns.length : Int) := by omega
      obtain ⟨n, hx⟩ : ∃ n, ns[i]? = some n := ⟨_, List.getElem?_eq_getElem hi⟩
      obtain ⟨o, ho⟩ : ∃ o, os[i]? = some o := ⟨_, List.getElem?_eq_getElem (by have := HN.out; omega)⟩
      have G1 := HG.out.fr HF.out (fun hk => by rcases hk with e | e; exact hgp e; exact hgx e)
      have g0 := G1.cell i
      rw [List.getElem?_map, ho] at g0
      simp only [Option.map_some] at g0
      have g1 := G1.lt
      have hnot : o ∉ os.take i := by
        intro hm
        obtain ⟨j, hj⟩ := List.getElem?_of_mem hm
        have hjl := (List.getElem?_eq_some_iff.1 hj).1
        rw [List.length_take] at hjl
        rw [List.getElem?_take_of_lt (by omega)] at hj
        have := (List.getElem?_inj (by have := HN.out; omega) HD.out).1 (hj.trans ho.symm)
        omega
      have hcell : (setAll cs (os.take i) (numsS s (ns.take i)).2)[o]? = some (.int .i64 n) := by
        rw [setAll_get _ _ _ _ hnot]
        exact HQ.out i o n ho hx
      have HN2 := Lib.hid (numR_i64 p base xb o (numsS s (ns.take i)).1 t _ n wr HP.out hp hb HBL.out hcell hbp)
      have HT := Lib.hid (numsS_take hx s)
      have HSN := Lib.hid (setAll_snoc cs os (numsS s (ns.take i)).2 i o (numS (numsS s (ns.take i)).1 n).2 ho (by rw [numsS_length, List.length_take]; omega))
      clear hx ho G1 hnot hcell
      go_wp2_with (go_at_call 110; refine HN2.out.mono ?_; rintro e w2 ⟨⟨u2, rfl⟩, hp2, hb2, hf2⟩; have HP2 := Lib.hid hp2; have HB2 := Lib.hid hb2; have HF2 := Lib.hid (Fr2.trans HF.out hf2); clear hp2 hb2 hf2)
      go_roundg (ns.length - (i + 1))
      case measure => omega
      case rel => exact ⟨i + 1, by omega, by go_num, by rw [HT.out.1]; exact HP2.out, by rw [HT.out.2, HSN.out]; exact HB2.out, HF2.out⟩
    · have hi1 : (ns.length : Int) ≤ (i : Int) := by omega
      obtain rfl : i = ns.length := by omega
      have hP := HP.out
      have hB := HBL.out
      rw [List.take_length] at hP hB
      rw [List.take_of_length_le (by have := HN.out; omega)] at hB
      have HP' := Lib.hid hP
      have HB' := Lib.hid hB
      clear hP hB
      go_wp2
      exact bodyPost_end (v := .tuple #[]) (by simp [results, Try.results95, go_sem]) rfl ⟨⟨_, rfl⟩, HP'.out, HB'.out, HF.out⟩
end Go.Proofs.Ytegogggemmcgdaa

/- What an argument's reading tells of its cells. -/
namespace Go.Proofs.Ytegogggemmcgdaa
open Go Go.RowKit Go.ChangeShapes Go.WideShapes Go.Deep

section
variable {H : Type} {enc : TypeId × Value → H} {P : Program} {w : World} {base : Nat} {spare : Nat → Bool} {held : Bool}
/-- these cells read as a value of type t -/
def Rd (enc : TypeId × Value → H) (P : Program) (w : World) (base : Nat) (spare : Nat → Bool) (held : Bool) (t : TypeId) (cs : List Value) : Prop :=
  ∃ fuel x, DataW.trod enc P w base spare held fuel t cs = some x
theorem Rd.int {t : TypeId} {k : IntKind} {cs : List Value} (h : Rd enc P w base spare held t cs) (ht : P.underlying t = some (.int k)) : ∃ n, cs = [.int k n] ∧ (Lit.int k n).wf = true := by
  obtain ⟨f, x, h⟩ := h
  obtain ⟨n, h1, _, h2⟩ := DataW.trod_int ht h
  exact ⟨n, h1, h2⟩
theorem Rd.bool {t : TypeId} {cs : List Value} (h : Rd enc P w base spare held t cs) (ht : P.underlying t = some .bool) : ∃ b, cs = [.bool b] := by
  obtain ⟨f, x, h⟩ := h
  obtain ⟨n, h1, _⟩ := DataW.trod_bool ht h
  exact ⟨n, h1⟩
theorem Rd.string {t : TypeId} {cs : List Value} (h : Rd enc P w base spare held t cs) (ht : P.underlying t = some .string) : ∃ s : ByteArray, cs = [.string s] ∧ s.size ≤ maxLen := by
  obtain ⟨f, x, h⟩ := h
  obtain ⟨n, h1, _, h2⟩ := DataW.trod_string ht h
  exact ⟨n, h1, h2⟩
theorem Rd.struct {t : TypeId} {fs : Array Field} {cs : List Value} (h : Rd enc P w base spare held t cs) (ht : P.underlying t = some (.struct fs)) :
    cs.length = P.cellsOf t ∧ ∀ (i : Nat) (f : Field), fs[i]? = some f → Rd enc P w base spare held f.type ((cs.drop f.offset).take (P.cellsOf f.type)) := by
  obtain ⟨fuel, x, h⟩ := h
  obtain ⟨xs, n, _, _, h1, h2, h3⟩ := DataW.trod_struct ht h
  refine ⟨h1, fun i f hf => ?_⟩
  have h4 := h3 i f hf
  have hi := (Array.getElem?_eq_some_iff.1 hf).1
  rw [List.getElem?_eq_getElem (by omega)] at h4
  exact ⟨n, _, h4⟩
theorem list_of {α : Type} {p : Nat → α → Prop} : ∀ (n : Nat), (∀ i, i < n → ∃ x, p i x) → ∃ xs : List α, xs.length = n ∧ ∀ i x, xs[i]? = some x → p i x
  | 0, _ => ⟨[], rfl, fun i x h => by simp at h⟩
  | n + 1, h => by
    obtain ⟨xs, hl, hx⟩ := list_of n fun i hi => h i (by omega)
    obtain ⟨y, hy⟩ := h n (by omega)
    refine ⟨xs ++ [y], by simp [hl], fun i x hi => ?_⟩
    rcases Nat.lt_or_ge i xs.length with h1 | h1
    · rw [List.getElem?_append_left h1] at hi
      exact hx i x hi
    · rw [List.getElem?_append_right h1] at hi
      have : i - xs.length = 0 := by
        have := (List.getElem?_eq_some_iff.1 hi).1
        simp at this
        omega
      rw [this] at hi
      simp at hi
      subst hi
      have : i = n := by omega
      rw [this]
      exact hy
theorem flat_at {α : Type} (f : α → List Value) (sz : Nat) (hf : ∀ x, (f x).length = sz) {l : List α} {k : Nat} {x : α} (hx : l[k]? = some x) (j : Nat) (hj : j < sz) : (l.flatMap f)[k * sz + j]? = (f x)[j]? := by
  induction l generalizing k with
  | nil => simp at hx
  | cons m l ih =>
    cases k with
    | zero =>
      simp only [List.getElem?_cons_zero, Option.some.injEq] at hx
      subst hx
      simp only [List.flatMap_cons, Nat.zero_mul, Nat.zero_add]
      rw [List.getElem?_append_left (by rw [hf]; exact hj)]
    | succ k =>
      simp only [List.getElem?_cons_succ] at hx
      have e : (k + 1) * sz + j = (k * sz + j) + sz := by rw [Nat.add_mul]; omega
      rw [e]
      simp only [List.flatMap_cons]
      rw [List.getElem?_append_right (by rw [hf]; omega), hf]
      simpa using ih hx
theorem flat_len {α : Type} (f : α → List Value) (sz : Nat) (hf : ∀ x, (f x).length = sz) (l : List α) : (l.flatMap f).length = l.length * sz := by
  induction l with
  | nil => simp
  | cons m l ih => simp only [List.flatMap_cons, List.length_append, ih, hf, List.length_cons, Nat.add_mul]; omega
/-- a slice whose elements read as something known -/
theorem Rd.slice {α : Type} (f : α → List Value) {p : α → Prop} {t e : TypeId} {cs : List Value} (sz : Nat) (hsz : 0 < sz) (h : Rd enc P w base spare held t cs) (ht : P.underlying t = some (.slice e)) (hc : P.cellsOf e = sz) (hf : ∀ x, (f x).length = sz)
    (he : ∀ cs', Rd enc P w base spare held e cs' → ∃ x, cs' = f x ∧ p x) :
    ∃ (A : Option Addr) (n c : Nat) (xs : List α) (e' : TypeId), cs = [.slice A n c] ∧ (A = none → n = 0 ∧ c = 0) ∧ n ≤ c ∧ c ≤ maxLen ∧ xs.length = n ∧ Sl w e' sz A n (xs.flatMap f) ∧ ∀ x ∈ xs, p x := by
  obtain ⟨fuel, x, h⟩ := h
  rcases open_slice ht h with ⟨rfl, _⟩ | ⟨a, len, cap, m, n, D, Pl, rfl, _, hl, hm, hmm, _, hi⟩
  · exact ⟨none, 0, 0, [], 0, rfl, fun _ => ⟨rfl, rfl⟩, Nat.le_refl _, by simp [maxLen], rfl, Sl.nil _ _ _ _, by simp⟩
  · have hlm : len ≤ m := by rw [hmm]; split <;> omega
    have h1 : ∀ i, i < len → ∃ x, p x ∧ ∀ j, j < sz → w.cell? (a.add (i * sz + j)) = (f x)[j]? := fun i hil => by
      obtain ⟨cs', hc', ht'⟩ := hi i (by omega)
      rw [hc] at hc'
      obtain ⟨x, rfl, hp⟩ := he cs' ⟨n, _, ht'⟩
      obtain ⟨_, _, hcell⟩ := World.cells?_some hc'
      refine ⟨x, hp, fun j hj => ?_⟩
      rw [← hcell j hj, Go.Deep.add_add]
    obtain ⟨xs, hxl, hxs⟩ := list_of len h1
    have hp : ∀ x ∈ xs, p x := fun x hx => by
      obtain ⟨i, hi'⟩ := List.getElem?_of_mem hx
      exact (hxs i x hi').1
    rcases Nat.eq_zero_or_pos len with h0 | h0
    · subst h0
      have : xs = [] := List.eq_nil_of_length_eq_zero hxl
      subst this
      exact ⟨some a, 0, cap, [], 0, rfl, by simp, hl, hm, rfl, Sl.nil _ _ _ _, by simp⟩
    · have hx0 : xs[0]? = some xs[0] := List.getElem?_eq_getElem (by omega)
      have hfl := hf xs[0]
      have hc0 : w.cell? (a.add 0) = (f xs[0])[0]? := by simpa using (hxs 0 _ hx0).2 0 hsz
      have ha0 : a.add 0 = a := by simp [Addr.add]
      rw [ha0, List.getElem?_eq_getElem (by omega)] at hc0
      obtain ⟨b, o, sp⟩ := a
      have hcells : ∃ cur e' fr, w.heap[b]? = some (Obj.cells cur e' fr) ∧ sp = none := by
        unfold World.cell? at hc0
        split at hc0
        · rename_i cur e' fr hh
          refine ⟨cur, e', fr, hh, ?_⟩
          cases sp with
          | none => rfl
          | some q => simp at hc0
        · cases hc0
      obtain ⟨cur, e', fr, hh, rfl⟩ := hcells
      refine ⟨some ⟨b, o, none⟩, len, cap, xs, e', rfl, by simp, hl, hm, hxl, ⟨by rw [flat_len f sz hf, hxl], fun _ => ⟨b, o, cur, fr, rfl, hh, fun j u hu => ?_⟩⟩, hp⟩
      have hjl := (List.getElem?_eq_some_iff.1 hu).1
      rw [flat_len f sz hf] at hjl
      have hq : j / sz < xs.length := Nat.div_lt_of_lt_mul (by rw [Nat.mul_comm]; exact hjl)
      have hxq : xs[j / sz]? = some xs[j / sz] := List.getElem?_eq_getElem hq
      have hj : (j / sz) * sz + j % sz = j := by rw [Nat.mul_comm]; exact Nat.div_add_mod j sz
      have h2 := (hxs _ _ hxq).2 (j % sz) (Nat.mod_lt _ hsz)
      rw [hj] at h2
      rw [← flat_at f sz hf hxq (j % sz) (Nat.mod_lt _ hsz), hj, hu, add_off, cell_of_row w b (o + j) cur e' fr hh] at h2
      exact h2
end
end Go.Proofs.Ytegogggemmcgdaa

/- codec: lists that are written. -/
namespace Go.Proofs.Ytegogggemmcgdaa
open Go Go.RowKit Go.Proofs

section
variable {α : Type}
/-- parts, one behind the other, until one can not be -/
def foldW (bytes : α → Bs) (pbad : α → Bool) : List α → Bs → Bool → Bs × Bool
  | [], l, bad => (l, bad)
  | x :: xs, l, bad => if bad then (l, bad) else foldW bytes pbad xs (l ++ bytes x) (pbad x)
def listW (bytes : α → Bs) (pbad : α → Bool) (xs : List α) (most : Nat) (l : Bs) (bad : Bool) : Bs × Bool :=
  foldW bytes pbad xs (l ++ leB (u64N xs.length) 8) (bad || decide (most < xs.length))
theorem foldW_bad (bytes : α → Bs) (pbad : α → Bool) (xs : List α) (l : Bs) : foldW bytes pbad xs l true = (l, true) := by
  cases xs <;> rfl
theorem foldW_drop (bytes : α → Bs) (pbad : α → Bool) {xs : List α} {i : Nat} {x : α} (h : xs[i]? = some x) (l : Bs) : foldW bytes pbad (xs.drop i) l false = foldW bytes pbad (xs.drop (i + 1)) (l ++ bytes x) (pbad x) := by
  have hi := (List.getElem?_eq_some_iff.1 h).1
  rw [List.drop_eq_getElem_cons hi]
  have e : xs[i] = x := (List.getElem?_eq_some_iff.1 h).2
  rw [e]
  rfl
theorem foldW_nil (bytes : α → Bs) (pbad : α → Bool) (l : Bs) (bad : Bool) : foldW bytes pbad [] l bad = (l, bad) := rfl
/-- what a part's writing does -/
def PartW (f : Nat) (t : TypeId) (enc : α → List Value) (bytes : α → Bs) (pbad : α → Bool) (p base : Nat) (x : α) : Prop :=
  ∀ (w : World) (v : Value) (l : Bs) (xb : Nat), PipeW w p base v l false → Blk w xb t (enc x) → l.length ≤ 1000000000 →
    Calls Try.prog f #[.pointer (some ⟨p, 0, none⟩), .pointer (some ⟨xb, 0, none⟩)] w fun e w' => (∃ u, e = .returned u) ∧ ∃ v', PipeW w' p base v' (l ++ bytes x) (pbad x) ∧ FrP p base w w'
end
def LWRel {α : Type} (bytes : α → Bs) (pbad : α → Bool) (w0 : World) (p base : Nat) (xs : List α) (F : Bs × Bool) (bd0 : Bool) (m : Nat) (g : Nat) (v9 : Value) (wr : World) : Prop :=
  ∃ (i : Nat) (v : Value) (l : Bs) (bad : Bool), i + g = xs.length ∧ v9 = .int .i64 i ∧ PipeW wr p base v l bad ∧ foldW bytes pbad (xs.drop i) l bad = F ∧ (bad = false → bd0 = false ∧ l.length ≤ m + 400 * i) ∧ FrP p base w0 wr
theorem int_at {w : World} {e : TypeId} {A : Option Addr} {n : Nat} {xs : List Int} (h : Sl w e 1 A n (xs.flatMap fun x => [Value.int .i64 x])) {k : Nat} {x : Int} (hx : xs[k]? = some x) :
    ∃ b o, A = some ⟨b, o, none⟩ ∧ b < w.heap.size ∧ w.cell? ⟨b, o + k, none⟩ = some (.int .i64 x) := by
  have hk := flat_at (fun x : Int => [Value.int .i64 x]) 1 (fun _ => rfl) hx 0 (by omega)
  have hn : 0 < n := by
    rcases Nat.eq_zero_or_pos n with h0 | h0
    · subst h0
      rw [h.of_zero] at hk
      cases hk
    · exact h0
  obtain ⟨b, o, rfl, hb, hc, _⟩ := h.cells hn
  exact ⟨b, o, rfl, hb, hc _ _ (by simpa using hk)⟩
attribute [irreducible] foldW
set_option maxRecDepth 100000 in
set_option maxHeartbeats 4000000 in
theorem listW_int (bytes : Int → Bs) (pbad : Int → Bool) (p base : Nat) (v : Value) (l : Bs) (bad : Bool) (b o : Nat) (t : TypeId) (cs : List Value) (A : Option Addr) (c : Nat) (et : TypeId) (xs : List (Int)) (most : Nat) (w : World)
    (h : PipeW w p base v l bad) (hB : Src w b t cs) (hc : cs[o]? = some (.slice A xs.length c)) (hS : ∀ w', FrP p base w w' → Sl w' et 1 A xs.length (xs.flatMap (fun x => [Value.int .i64 x]))) (hm : xs.length ≤ maxLen) (hmost : most ≤ 4096)
    (hpart : ∀ x ∈ xs, PartW 98 3 (fun x => [Value.int .i64 x]) bytes pbad p base x) (hsm : ∀ x ∈ xs, pbad x = false → (bytes x).length ≤ 400) (hl : l.length ≤ 149000000000000) (hl2 : bad = false → l.length ≤ 900000000) :
    Calls Try.prog 97 #[.pointer (some ⟨p, 0, none⟩), .pointer (some ⟨b, o, none⟩), .int .i64 most, .func (.func 98) #[] #[]] w fun e w' => (∃ u, e = .returned u) ∧ ∃ v', PipeW w' p base v' (listW bytes pbad xs most l bad).1 (listW bytes pbad xs most l bad).2 ∧ FrP p base w w' := by
  have n0 := (hB.blk.cell o).trans hc
  have n1 := hB.blk.lt
  have H := Lib.hid h
  have HB := Lib.hid hB
  have HC := Lib.hid hc
  have HS := Lib.hid hS
  have HM := Lib.hid hmost
  have HPT := Lib.hid hpart
  have HSM := Lib.hid hsm
  have HL := Lib.hid hl
  have HL2 := Lib.hid hl2
  have hx0 : (0 : Int) ≤ (xs.length : Int) := by omega
  have hx1 : (xs.length : Int) ≤ 9223372036854775807 := by simp only [maxLen] at hm; omega
  have HN := Lib.hid (Src.mk (Blk.new w 3 [.int .i64 xs.length]) (by decide) (by decide))
  have HF := Lib.hid ((Fr.refl No w).alloc (Obj.cells #[.int .i64 xs.length] 3))
  have HE := Lib.hid (manyBad_len bad xs.length most)
  obtain ⟨F, hF⟩ : ∃ F, F = listW bytes pbad xs most l bad := ⟨_, rfl⟩
  rw [← hF]
  have HFF := Lib.hid hF
  clear h hB hc hS hm hmost hpart hsm hl hl2 hF
  obtain ⟨nb, hnb⟩ : ∃ nb, nb = w.heap.size := ⟨_, rfl⟩
  rw [← hnb] at HN
  have HNB := Lib.hid hnb
  clear hnb
  go_enter Try.func97, Try.ntmps97
  go_wp2_with (first
    | (rw [← HNB.out]; go_at_call 111; refine (manyW_any p base v l bad nb 0 3 _ xs.length most _ (H.out.fr0 HF.out) HN.out rfl (by have := HL.out; omega)).mono ?_; rintro e w1 ⟨⟨u1, rfl⟩, v1, hp1, hf1⟩; rw [HE.out] at hp1; have HP1 := Lib.hid hp1; have HF1 := Lib.hid ((FrP.no HF.out).trans hf1); have HN1 := Lib.hid (HN.out.frp (H.out.fr0 HF.out) hf1); clear hp1 hf1 n0 n1))
  have hF0 := HFF.out
  rw [listW] at hF0
  have HF0 := Lib.hid hF0
  have HBD := Lib.hid (show (bad || decide (most < xs.length)) = false → bad = false ∧ xs.length ≤ most by simp)
  obtain ⟨bd0, hbd0⟩ : ∃ bd0, bd0 = (bad || decide (most < xs.length)) := ⟨_, rfl⟩
  rw [← hbd0] at HP1 HF0 HBD
  obtain ⟨l1, hl1⟩ : ∃ l1, l1 = l ++ leB (u64N xs.length) 8 := ⟨_, rfl⟩
  rw [← hl1] at HP1 HF0
  have HL1 := Lib.hid (show l1.length = l.length + 8 by rw [hl1, List.length_append, leB_length])
  clear hF0 hbd0 hl1 HFF HE
  go_loopg [9] xs.length (fun g v9 wr => LWRel bytes pbad w1 p base xs F bd0 (l.length + 8) g v9 wr)
  case atStart => exact ⟨0, v1, l1, bd0, by omega, rfl, HP1.out, by rw [List.drop_zero]; exact HF0.out.symm, fun hz => ⟨hz, by have := HL1.out; omega⟩, FrP.refl _ _ _⟩
  case round =>
    obtain ⟨i, u, li, bi, hgi, rfl, hp, hfo, hle, hf⟩ := hrel
    have HP := Lib.hid hp
    have HFO := Lib.hid hfo
    have HLE := Lib.hid hle
    have HFR := Lib.hid hf
    have hi0 : (0 : Int) ≤ (i : Int) := by omega
    have c0 := hp.blk.cell 0
    have c1 := hp.blk.cell 1
    have c2 := hp.blk.cell 2
    have c4 := hp.blk.lt
    simp only [List.getElem?_cons_zero, List.getElem?_cons_succ] at c0 c1 c2
    have N1 := (HN1.out.frp HP1.out hf).blk
    have e0 := N1.cell 0
    have e1 := N1.lt
    simp only [List.getElem?_cons_zero] at e0
    have B1 := ((HB.out.frp H.out HF1.out).frp HP1.out hf).blk
    have n0 := (B1.cell o).trans HC.out
    have n1 := B1.lt
    clear hp hfo hle hf N1 B1
    by_cases hi : i < xs.length
    · have hi1 : (i : Int) < (xs.length : Int) := by omega
      cases bi
      · obtain ⟨x, hx⟩ : ∃ x, xs[i]? = some x := ⟨_, List.getElem?_eq_getElem hi⟩
        obtain ⟨g, oo, rfl, hg1, k0⟩ := int_at (HS.out _ (HF1.out.trans HFR.out)) hx
        have HX := Lib.hid hx
        clear hx
        have HBL := Lib.hid (show li.length ≤ 1000000000 by
          obtain ⟨hz, hbl⟩ := HLE.out (by first | exact rfl | trivial)
          have h3 := HBD.out hz
          have := HL2.out h3.1
          have := HM.out
          omega)
        go_wp2_with (first
          | (go_at_call 98; refine (HPT.out x (List.mem_of_getElem? HX.out) _ u li wr.heap.size (HP.out.fr0 ((Fr.refl No wr).alloc (Obj.cells ((fun x => [Value.int .i64 x]) x).toArray 3))) (Blk.new wr 3 ((fun x => [Value.int .i64 x]) x)) HBL.out).mono ?_; rintro e w2 ⟨⟨u2, rfl⟩, v2, hp2, hf2⟩; have HP2 := Lib.hid hp2; have HF2 := Lib.hid ((FrP.no (p := p) (base := base) ((Fr.refl No wr).alloc (Obj.cells ((fun x => [Value.int .i64 x]) x).toArray 3))).trans hf2); have d1 := hp2.blk.cell 1; have d4 := hp2.blk.lt; simp only [List.getElem?_cons_zero, List.getElem?_cons_succ] at d1; clear hp2 hf2))
        go_roundg (xs.length - (i + 1))
        case measure => omega
        case rel =>
          refine ⟨i + 1, v2, _, _, by omega, by go_num, HP2.out, ?_, fun hz => ?_, HFR.out.trans HF2.out⟩
          · rw [← foldW_drop bytes pbad HX.out]; exact HFO.out
          · obtain ⟨hz0, hbl⟩ := HLE.out (by first | exact rfl | trivial)
            have := HSM.out x (List.mem_of_getElem? HX.out) hz
            refine ⟨hz0, ?_⟩
            rw [List.length_append]
            omega
      · have hFx := HFO.out
        rw [foldW_bad] at hFx
        have HFX := Lib.hid hFx
        clear hFx
        go_wp2
        refine bodyPost_end (v := .tuple #[]) (by simp [results, Try.results97, go_sem]) rfl ⟨⟨_, rfl⟩, u, ?_, HF1.out.trans HFR.out⟩
        rw [← HFX.out]
        exact HP.out
    · have hi1 : (xs.length : Int) ≤ (i : Int) := by omega
      obtain rfl : i = xs.length := by omega
      have hFx := HFO.out
      rw [List.drop_length, foldW_nil] at hFx
      have HFX := Lib.hid hFx
      clear hFx
      go_wp2
      refine bodyPost_end (v := .tuple #[]) (by simp [results, Try.results97, go_sem]) rfl ⟨⟨_, rfl⟩, u, ?_, HF1.out.trans HFR.out⟩
      rw [← HFX.out]
      exact HP.out
end Go.Proofs.Ytegogggemmcgdaa

/- codec: the parts, written. -/
namespace Go.Proofs.Ytegogggemmcgdaa
open Go Go.RowKit Go.Proofs

structure JSt where
  id : Int
  job : Int
  day : Int
  state : Int
  hold : Bool
  force : Bool
  runs : Int
  tries : Int
  run : Int
  at_ : Int
abbrev JSt.vals (x : JSt) : List Value := [.int .i64 x.id, .int .i64 x.job, .int .i64 x.day, .int .i64 x.state, .bool x.hold, .bool x.force, .int .i64 x.runs, .int .i64 x.tries, .int .i64 x.run, .int .i64 x.at_]
structure CondS where
  name : ByteArray
  day : Int
abbrev CondS.vals (x : CondS) : List Value := [.string x.name, .int .i64 x.day]
structure ResS where
  name : ByteArray
  units : Int
  lock : Bool
abbrev ResS.vals (x : ResS) : List Value := [.string x.name, .int .i64 x.units, .bool x.lock]
structure HeldS where
  owner : Int
  name : ByteArray
  n : Int
  mode : Int
abbrev HeldS.vals (x : HeldS) : List Value := [.int .i64 x.owner, .string x.name, .int .i64 x.n, .int .i64 x.mode]
theorem elem_at {α : Type} (enc : α → List Value) (sz : Nat) (hsz : 0 < sz) (hf : ∀ x, (enc x).length = sz) {w : World} {e : TypeId} {A : Option Addr} {n : Nat} {xs : List α} (h : Sl w e sz A n (xs.flatMap enc)) {k : Nat} {x : α} (hx : xs[k]? = some x) :
    ∃ b o, A = some ⟨b, o, none⟩ ∧ b < w.heap.size ∧ ∀ j u, (enc x)[j]? = some u → w.cell? ⟨b, o + k * sz + j, none⟩ = some u := by
  have hn : 0 < n := by
    rcases Nat.eq_zero_or_pos n with h0 | h0
    · subst h0
      have hk := flat_at enc sz hf hx 0 hsz
      rw [h.of_zero] at hk
      have hl := hf x
      have h1 : (enc x)[0]? = some ((enc x)[0]'(by omega)) := List.getElem?_eq_getElem _
      rw [h1] at hk
      cases hk
    · exact h0
  obtain ⟨b, o, rfl, hb, hc, _⟩ := h.cells hn
  refine ⟨b, o, rfl, hb, fun j u hu => ?_⟩
  have hj : j < sz := by
    have := (List.getElem?_eq_some_iff.1 hu).1
    rw [hf] at this
    exact this
  rw [Nat.add_assoc]
  exact hc _ _ ((flat_at enc sz hf hx j hj).trans hu)
theorem job_at {w : World} {e : TypeId} {A : Option Addr} {n : Nat} {xs : List JSt} (h : Sl w e 10 A n (xs.flatMap JSt.vals)) {k : Nat} {x : JSt} (hx : xs[k]? = some x) :
    ∃ b o, A = some ⟨b, o, none⟩ ∧ b < w.heap.size ∧ w.cell? ⟨b, o + k * 10, none⟩ = some (.int .i64 x.id) ∧ w.cell? ⟨b, o + k * 10 + 1, none⟩ = some (.int .i64 x.job) ∧ w.cell? ⟨b, o + k * 10 + 2, none⟩ = some (.int .i64 x.day) ∧ w.cell? ⟨b, o + k * 10 + 3, none⟩ = some (.int .i64 x.state) ∧ w.cell? ⟨b, o + k * 10 + 4, none⟩ = some (.bool x.hold) ∧ w.cell? ⟨b, o + k * 10 + 5, none⟩ = some (.bool x.force) ∧ w.cell? ⟨b, o + k * 10 + 6, none⟩ = some (.int .i64 x.runs) ∧ w.cell? ⟨b, o + k * 10 + 7, none⟩ = some (.int .i64 x.tries) ∧ w.cell? ⟨b, o + k * 10 + 8, none⟩ = some (.int .i64 x.run) ∧ w.cell? ⟨b, o + k * 10 + 9, none⟩ = some (.int .i64 x.at_) := by
  obtain ⟨b, o, hA, hb, hc⟩ := elem_at JSt.vals 10 (by omega) (fun _ => rfl) h hx
  exact ⟨b, o, hA, hb, hc 0 _ rfl, hc 1 _ rfl, hc 2 _ rfl, hc 3 _ rfl, hc 4 _ rfl, hc 5 _ rfl, hc 6 _ rfl, hc 7 _ rfl, hc 8 _ rfl, hc 9 _ rfl⟩
theorem cond_at {w : World} {e : TypeId} {A : Option Addr} {n : Nat} {xs : List CondS} (h : Sl w e 2 A n (xs.flatMap CondS.vals)) {k : Nat} {x : CondS} (hx : xs[k]? = some x) :
    ∃ b o, A = some ⟨b, o, none⟩ ∧ b < w.heap.size ∧ w.cell? ⟨b, o + k * 2, none⟩ = some (.string x.name) ∧ w.cell? ⟨b, o + k * 2 + 1, none⟩ = some (.int .i64 x.day) := by
  obtain ⟨b, o, hA, hb, hc⟩ := elem_at CondS.vals 2 (by omega) (fun _ => rfl) h hx
  exact ⟨b, o, hA, hb, hc 0 _ rfl, hc 1 _ rfl⟩
theorem res_at {w : World} {e : TypeId} {A : Option Addr} {n : Nat} {xs : List ResS} (h : Sl w e 3 A n (xs.flatMap ResS.vals)) {k : Nat} {x : ResS} (hx : xs[k]? = some x) :
    ∃ b o, A = some ⟨b, o, none⟩ ∧ b < w.heap.size ∧ w.cell? ⟨b, o + k * 3, none⟩ = some (.string x.name) ∧ w.cell? ⟨b, o + k * 3 + 1, none⟩ = some (.int .i64 x.units) ∧ w.cell? ⟨b, o + k * 3 + 2, none⟩ = some (.bool x.lock) := by
  obtain ⟨b, o, hA, hb, hc⟩ := elem_at ResS.vals 3 (by omega) (fun _ => rfl) h hx
  exact ⟨b, o, hA, hb, hc 0 _ rfl, hc 1 _ rfl, hc 2 _ rfl⟩
theorem held_at {w : World} {e : TypeId} {A : Option Addr} {n : Nat} {xs : List HeldS} (h : Sl w e 4 A n (xs.flatMap HeldS.vals)) {k : Nat} {x : HeldS} (hx : xs[k]? = some x) :
    ∃ b o, A = some ⟨b, o, none⟩ ∧ b < w.heap.size ∧ w.cell? ⟨b, o + k * 4, none⟩ = some (.int .i64 x.owner) ∧ w.cell? ⟨b, o + k * 4 + 1, none⟩ = some (.string x.name) ∧ w.cell? ⟨b, o + k * 4 + 2, none⟩ = some (.int .i64 x.n) ∧ w.cell? ⟨b, o + k * 4 + 3, none⟩ = some (.int .i64 x.mode) := by
  obtain ⟨b, o, hA, hb, hc⟩ := elem_at HeldS.vals 4 (by omega) (fun _ => rfl) h hx
  exact ⟨b, o, hA, hb, hc 0 _ rfl, hc 1 _ rfl, hc 2 _ rfl, hc 3 _ rfl⟩
def bytesJ (x : JSt) : Bs := leB (u64N x.id) 8 ++ leB (u64N x.job) 8 ++ leB (u64N x.day) 8 ++ leB (u64N x.state) 8 ++ bitB x.hold ++ bitB x.force ++ numB [x.runs, x.tries, x.run, x.at_]
def textB (s : ByteArray) : Bs := leB (u64N s.size) 8 ++ s.data.toList
def bytesC (x : CondS) : Bs := textB x.name ++ leB (u64N x.day) 8
def bytesR (x : ResS) : Bs := textB x.name ++ leB (u64N x.units) 8 ++ bitB x.lock
def bytesH (x : HeldS) : Bs := leB (u64N x.owner) 8 ++ textB x.name ++ leB (u64N x.n) 8 ++ leB (u64N x.mode) 8
def longB (s : ByteArray) : Bool := decide (255 < s.size)
theorem src4 {w : World} {xb : Nat} {t : TypeId} {cs : List Value} (h : Src w xb t cs) {a b c d : Nat} {na nb nc nd : Int} (h0 : cs[a]? = some (.int .i64 na)) (h1 : cs[b]? = some (.int .i64 nb)) (h2 : cs[c]? = some (.int .i64 nc)) (h3 : cs[d]? = some (.int .i64 nd)) :
    ∀ (i : Nat) (q : Nat × Nat) (n : Int), [(xb, a), (xb, b), (xb, c), (xb, d)][i]? = some q → [na, nb, nc, nd][i]? = some n → ∃ t cs, Src w q.1 t cs ∧ cs[q.2]? = some (.int .i64 n) := by
  intro i q n hq hn
  match i, hq, hn with
  | 0, hq, hn => simp only [List.getElem?_cons_zero, Option.some.injEq] at hq hn; subst hq hn; exact ⟨t, cs, h, h0⟩
  | 1, hq, hn => simp only [List.getElem?_cons_zero, List.getElem?_cons_succ, Option.some.injEq] at hq hn; subst hq hn; exact ⟨t, cs, h, h1⟩
  | 2, hq, hn => simp only [List.getElem?_cons_zero, List.getElem?_cons_succ, Option.some.injEq] at hq hn; subst hq hn; exact ⟨t, cs, h, h2⟩
  | 3, hq, hn => simp only [List.getElem?_cons_zero, List.getElem?_cons_succ, Option.some.injEq] at hq hn; subst hq hn; exact ⟨t, cs, h, h3⟩
  | k + 4, hq, _ => simp at hq
theorem textB_length (s : ByteArray) : (textB s).length = 8 + s.size := by
  rw [textB, List.length_append, leB_length]
  have : s.data.toList.length = s.size := Array.length_toList
  omega
theorem bitB_length (is : Bool) : (bitB is).length = 1 := rfl
set_option maxRecDepth 100000 in
set_option maxHeartbeats 2000000 in
theorem jobOf_part (p base : Nat) (x : JSt) : PartW 100 119 JSt.vals bytesJ (fun _ => false) p base x := by
  intro w v l xb h hB hl
  have H := Lib.hid h
  have HS := Lib.hid (Src.mk hB (by decide) (by decide))
  have HL := Lib.hid hl
  have HF := Lib.hid (FrP.refl p base w)
  clear h hB hl
  go_enter Try.func100, Try.ntmps100
  go_wp2_with (first
    | (go_at_call 112; refine (truthW_any p base _ (l ++ leB (u64N x.id) 8 ++ leB (u64N x.job) 8 ++ leB (u64N x.day) 8 ++ leB (u64N x.state) 8 ++ bitB x.hold) _ xb 5 _ _ x.force _ HP_v5.out (HS.out.frp H.out HF_v5.out) rfl (by (try simp only [List.length_append, leB_length, bitB_length, textB_length]); have := HL.out; omega)).mono ?_; rintro e w6 ⟨⟨u_w6, rfl⟩, v6, hp_v6, hf_v6⟩; have HP_v6 := Lib.hid hp_v6; have HF_v6 := Lib.hid (HF_v5.out.trans hf_v6); clear hp_v6 hf_v6)
    | (go_at_call 112; refine (truthW_any p base _ (l ++ leB (u64N x.id) 8 ++ leB (u64N x.job) 8 ++ leB (u64N x.day) 8 ++ leB (u64N x.state) 8) _ xb 4 _ _ x.hold _ HP_v4.out (HS.out.frp H.out HF_v4.out) rfl (by (try simp only [List.length_append, leB_length, bitB_length, textB_length]); have := HL.out; omega)).mono ?_; rintro e w5 ⟨⟨u_w5, rfl⟩, v5, hp_v5, hf_v5⟩; have HP_v5 := Lib.hid hp_v5; have HF_v5 := Lib.hid (HF_v4.out.trans hf_v5); clear hp_v5 hf_v5)
    | (go_at_call 94; refine (numW_int p base _ (l ++ leB (u64N x.id) 8 ++ leB (u64N x.job) 8 ++ leB (u64N x.day) 8) _ xb 3 x.state _ HP_v3.out ((HS.out.frp H.out HF_v3.out).blk.cell 3) (HS.out.frp H.out HF_v3.out).blk.lt (by (try simp only [List.length_append, leB_length, bitB_length]); have := HL.out; omega)).mono ?_; rintro e w4 ⟨⟨u_w4, rfl⟩, v4, hp_v4, hf_v4⟩; have HP_v4 := Lib.hid hp_v4; have HF_v4 := Lib.hid (HF_v3.out.trans hf_v4); clear hp_v4 hf_v4)
    | (go_at_call 110; refine (numW_i64 p base _ (l ++ leB (u64N x.id) 8 ++ leB (u64N x.job) 8) _ xb 2 x.day _ HP_v2.out ((HS.out.frp H.out HF_v2.out).blk.cell 2) (HS.out.frp H.out HF_v2.out).blk.lt (by (try simp only [List.length_append, leB_length, bitB_length]); have := HL.out; omega)).mono ?_; rintro e w3 ⟨⟨u_w3, rfl⟩, v3, hp_v3, hf_v3⟩; have HP_v3 := Lib.hid hp_v3; have HF_v3 := Lib.hid (HF_v2.out.trans hf_v3); clear hp_v3 hf_v3)
    | (go_at_call 94; refine (numW_int p base _ (l ++ leB (u64N x.id) 8) _ xb 1 x.job _ HP_v1.out ((HS.out.frp H.out HF_v1.out).blk.cell 1) (HS.out.frp H.out HF_v1.out).blk.lt (by (try simp only [List.length_append, leB_length, bitB_length]); have := HL.out; omega)).mono ?_; rintro e w2 ⟨⟨u_w2, rfl⟩, v2, hp_v2, hf_v2⟩; have HP_v2 := Lib.hid hp_v2; have HF_v2 := Lib.hid (HF_v1.out.trans hf_v2); clear hp_v2 hf_v2)
    | (go_at_call 110; refine (numW_i64 p base _ (l) _ xb 0 x.id _ H.out ((HS.out.frp H.out HF.out).blk.cell 0) (HS.out.frp H.out HF.out).blk.lt (by (try simp only [List.length_append, leB_length, bitB_length]); have := HL.out; omega)).mono ?_; rintro e w1 ⟨⟨u_w1, rfl⟩, v1, hp_v1, hf_v1⟩; have HP_v1 := Lib.hid hp_v1; have HF_v1 := Lib.hid (HF.out.trans hf_v1); clear hp_v1 hf_v1))
  refine wp_region_o [(0, 0), (1, 0), (2, 0), (3, 0), (4, 0), (5, 0), (6, 0), (7, 0), (8, 0), (9, 0), (10, 0), (11, 0), (12, 0), (13, 2), (14, 3)] (by kernel_rfl) (by kernel_rfl) ?_
  repeat (first
    | (apply wpO_pure rfl rfl; (focus (intro w'; go_simp; (try rfl); done)); try simp only [Act.put, List.setIfInBounds_toArray, List.set_cons_zero, List.set_cons_succ])
    | (apply wpO_read rfl rfl; (focus (intro w' hf' hs'; (try simp only [World.size_drew, World.cell?_drew, World.size_alloc, World.size_setCell] at hs'); go_simp; (try rfl); done)); try simp only [Act.put, List.setIfInBounds_toArray, List.set_cons_zero, List.set_cons_succ])
    | (apply wpO_skip (by decide) rfl rfl; try simp only [Act.put, List.setIfInBounds_toArray, List.set_cons_zero, List.set_cons_succ]))
  refine wpO_loudE rfl fun K hK => ?_
  go_simp
  refine hK _ _ ⟨by (repeat (first | exact Fr.refl _ _ | assumption | refine Fr.drew ?_ | refine Fr.alloc ?_ _ | refine Fr.drewL ?_)), ?_⟩
  clear hK K
  repeat (first
    | (apply wpO_pure rfl rfl; (focus (intro w'; go_simp; (try rfl); done)); try simp only [Act.put, List.setIfInBounds_toArray, List.set_cons_zero, List.set_cons_succ])
    | (apply wpO_read rfl rfl; (focus (intro w' hf' hs'; (try simp only [World.size_drew, World.cell?_drew, World.size_alloc, World.size_setCell] at hs'); go_simp; (try rfl); done)); try simp only [Act.put, List.setIfInBounds_toArray, List.set_cons_zero, List.set_cons_succ])
    | (apply wpO_skip (by decide) rfl rfl; try simp only [Act.put, List.setIfInBounds_toArray, List.set_cons_zero, List.set_cons_succ]))
  have F7 := ((Fr.refl No w6).alloc (Obj.cells ([(xb, 6), (xb, 7), (xb, 8), (xb, 9)].map ptrV).toArray 160)).drew
  have G7 := Src.mk (Blk.new w6 160 ([(xb, 6), (xb, 7), (xb, 8), (xb, 9)].map ptrV)).drew (by decide) (by decide)
  have S7 := (HS.out.frp H.out HF_v6.out).fr0 F7
  refine wpO_loud rfl fun K hK => ?_
  go_simp
  refine (numsW_any p base v6 (l ++ leB (u64N x.id) 8 ++ leB (u64N x.job) 8 ++ leB (u64N x.day) 8 ++ leB (u64N x.state) 8 ++ bitB x.hold ++ bitB x.force) false w6.heap.size 4 _ [(xb, 6), (xb, 7), (xb, 8), (xb, 9)] [x.runs, x.tries, x.run, x.at_] _ (HP_v6.out.fr0 F7) G7 rfl (src4 S7 rfl rfl rfl rfl) (by simp only [List.length_append, leB_length, bitB_length, List.length_cons, List.length_nil]; have := HL.out; omega)).mono ?_
  rintro e w8 ⟨⟨u8, rfl⟩, v8, hp8, hf8⟩
  refine hK _ _ ?_
  clear hK K
  have HP8 := Lib.hid hp8
  have HF8 := Lib.hid ((HF_v6.out.fr0 F7).trans hf8)
  clear hp8 hf8 F7 G7 S7
  repeat (first
    | (apply wpO_pure rfl rfl; (focus (intro w'; go_simp; (try rfl); done)); try simp only [Act.put, List.setIfInBounds_toArray, List.set_cons_zero, List.set_cons_succ])
    | (apply wpO_read rfl rfl; (focus (intro w' hf' hs'; (try simp only [World.size_drew, World.cell?_drew, World.size_alloc, World.size_setCell] at hs'); go_simp; (try rfl); done)); try simp only [Act.put, List.setIfInBounds_toArray, List.set_cons_zero, List.set_cons_succ])
    | (apply wpO_skip (by decide) rfl rfl; try simp only [Act.put, List.setIfInBounds_toArray, List.set_cons_zero, List.set_cons_succ]))
  refine wpO_nil ?_
  go_wp2
  refine bodyPost_end (v := .tuple #[]) (by simp [results, Try.results100, go_sem]) rfl ⟨⟨_, rfl⟩, v8, ?_, HF8.out⟩
  have e : l ++ bytesJ x = l ++ leB (u64N x.id) 8 ++ leB (u64N x.job) 8 ++ leB (u64N x.day) 8 ++ leB (u64N x.state) 8 ++ bitB x.hold ++ bitB x.force ++ numB [x.runs, x.tries, x.run, x.at_] := by simp only [bytesJ, List.append_assoc]
  rw [e]
  exact HP8.out
end Go.Proofs.Ytegogggemmcgdaa

/- codec: conditions, resources, holders, written; their lists. -/
namespace Go.Proofs.Ytegogggemmcgdaa
open Go Go.RowKit Go.Proofs

theorem manyBad_long (s : ByteArray) : manyBad false s.size 255 = longB s := by
  have := manyBad_len false s.size 255
  simpa [longB] using this
theorem textB_eq (s : ByteArray) : textB s = leB (u64N s.size) 8 ++ s.data.toList := rfl
set_option maxRecDepth 100000 in
set_option maxHeartbeats 2000000 in
theorem condOf_part (p base : Nat) (x : CondS) (hx : x.name.size ≤ 140737488355328) : PartW 102 131 CondS.vals bytesC (fun x => longB x.name) p base x := by
  intro w v l xb h hB hl
  have H := Lib.hid h
  have HS := Lib.hid (Src.mk hB (by decide) (by decide))
  have HL := Lib.hid hl
  have HX := Lib.hid hx
  have HF := Lib.hid (FrP.refl p base w)
  clear h hB hl hx
  go_enter Try.func102, Try.ntmps102
  go_wp2_with (first
    | (go_at_call 110; refine (numW_i64 p base _ (l ++ textB x.name) _ xb 1 x.day _ HP_v1.out ((HS.out.frp H.out HF_v1.out).blk.cell 1) (HS.out.frp H.out HF_v1.out).blk.lt (by (try simp only [List.length_append, leB_length, bitB_length, textB_length]); have := HL.out; have := HX.out; omega)).mono ?_; rintro e w2 ⟨⟨u_w2, rfl⟩, v2, hp_v2, hf_v2⟩; have HP_v2 := Lib.hid hp_v2; have HF_v2 := Lib.hid (HF_v1.out.trans hf_v2); clear hp_v2 hf_v2)
    | (go_at_call 96; refine (textW_any p base _ (l) _ xb 0 _ _ x.name 255 _ H.out (HS.out.frp H.out HF.out) rfl (by (try simp only [List.length_append, leB_length, bitB_length, textB_length]); have := HL.out; have := HX.out; omega)).mono ?_; rintro e w1 ⟨⟨u_w1, rfl⟩, v1, hp_v1, hf_v1⟩; rw [manyBad_long, List.append_assoc, ← textB_eq] at hp_v1; have HP_v1 := Lib.hid hp_v1; have HF_v1 := Lib.hid (HF.out.trans hf_v1); clear hp_v1 hf_v1))
  refine bodyPost_end (v := .tuple #[]) (by simp [results, Try.results102, go_sem]) rfl ⟨⟨_, rfl⟩, v2, ?_, HF_v2.out⟩
  have e : l ++ bytesC x = l ++ textB x.name ++ leB (u64N x.day) 8 := by simp only [bytesC, List.append_assoc]
  rw [e]
  exact HP_v2.out
set_option maxRecDepth 100000 in
set_option maxHeartbeats 2000000 in
theorem resOf_part (p base : Nat) (x : ResS) (hx : x.name.size ≤ 140737488355328) : PartW 104 122 ResS.vals bytesR (fun x => longB x.name) p base x := by
  intro w v l xb h hB hl
  have H := Lib.hid h
  have HS := Lib.hid (Src.mk hB (by decide) (by decide))
  have HL := Lib.hid hl
  have HX := Lib.hid hx
  have HF := Lib.hid (FrP.refl p base w)
  clear h hB hl hx
  go_enter Try.func104, Try.ntmps104
  go_wp2_with (first
    | (go_at_call 112; refine (truthW_any p base _ (l ++ textB x.name ++ leB (u64N x.units) 8) _ xb 2 _ _ x.lock _ HP_v2.out (HS.out.frp H.out HF_v2.out) rfl (by (try simp only [List.length_append, leB_length, bitB_length, textB_length]); have := HL.out; have := HX.out; omega)).mono ?_; rintro e w3 ⟨⟨u_w3, rfl⟩, v3, hp_v3, hf_v3⟩; have HP_v3 := Lib.hid hp_v3; have HF_v3 := Lib.hid (HF_v2.out.trans hf_v3); clear hp_v3 hf_v3)
    | (go_at_call 110; refine (numW_i64 p base _ (l ++ textB x.name) _ xb 1 x.units _ HP_v1.out ((HS.out.frp H.out HF_v1.out).blk.cell 1) (HS.out.frp H.out HF_v1.out).blk.lt (by (try simp only [List.length_append, leB_length, bitB_length, textB_length]); have := HL.out; have := HX.out; omega)).mono ?_; rintro e w2 ⟨⟨u_w2, rfl⟩, v2, hp_v2, hf_v2⟩; have HP_v2 := Lib.hid hp_v2; have HF_v2 := Lib.hid (HF_v1.out.trans hf_v2); clear hp_v2 hf_v2)
    | (go_at_call 96; refine (textW_any p base _ (l) _ xb 0 _ _ x.name 255 _ H.out (HS.out.frp H.out HF.out) rfl (by (try simp only [List.length_append, leB_length, bitB_length, textB_length]); have := HL.out; have := HX.out; omega)).mono ?_; rintro e w1 ⟨⟨u_w1, rfl⟩, v1, hp_v1, hf_v1⟩; rw [manyBad_long, List.append_assoc, ← textB_eq] at hp_v1; have HP_v1 := Lib.hid hp_v1; have HF_v1 := Lib.hid (HF.out.trans hf_v1); clear hp_v1 hf_v1))
  refine bodyPost_end (v := .tuple #[]) (by simp [results, Try.results104, go_sem]) rfl ⟨⟨_, rfl⟩, v3, ?_, HF_v3.out⟩
  have e : l ++ bytesR x = l ++ textB x.name ++ leB (u64N x.units) 8 ++ bitB x.lock := by simp only [bytesR, List.append_assoc]
  rw [e]
  exact HP_v3.out
set_option maxRecDepth 100000 in
set_option maxHeartbeats 2000000 in
theorem heldOf_part (p base : Nat) (x : HeldS) (hx : x.name.size ≤ 140737488355328) : PartW 106 125 HeldS.vals bytesH (fun x => longB x.name) p base x := by
  intro w v l xb h hB hl
  have H := Lib.hid h
  have HS := Lib.hid (Src.mk hB (by decide) (by decide))
  have HL := Lib.hid hl
  have HX := Lib.hid hx
  have HF := Lib.hid (FrP.refl p base w)
  clear h hB hl hx
  go_enter Try.func106, Try.ntmps106
  go_wp2_with (first
    | (go_at_call 94; refine (numW_int p base _ (l ++ leB (u64N x.owner) 8 ++ textB x.name ++ leB (u64N x.n) 8) _ xb 3 x.mode _ HP_v3.out ((HS.out.frp H.out HF_v3.out).blk.cell 3) (HS.out.frp H.out HF_v3.out).blk.lt (by (try simp only [List.length_append, leB_length, bitB_length, textB_length]); have := HL.out; have := HX.out; omega)).mono ?_; rintro e w4 ⟨⟨u_w4, rfl⟩, v4, hp_v4, hf_v4⟩; have HP_v4 := Lib.hid hp_v4; have HF_v4 := Lib.hid (HF_v3.out.trans hf_v4); clear hp_v4 hf_v4)
    | (go_at_call 110; refine (numW_i64 p base _ (l ++ leB (u64N x.owner) 8 ++ textB x.name) _ xb 2 x.n _ HP_v2.out ((HS.out.frp H.out HF_v2.out).blk.cell 2) (HS.out.frp H.out HF_v2.out).blk.lt (by (try simp only [List.length_append, leB_length, bitB_length, textB_length]); have := HL.out; have := HX.out; omega)).mono ?_; rintro e w3 ⟨⟨u_w3, rfl⟩, v3, hp_v3, hf_v3⟩; have HP_v3 := Lib.hid hp_v3; have HF_v3 := Lib.hid (HF_v2.out.trans hf_v3); clear hp_v3 hf_v3)
    | (go_at_call 96; refine (textW_any p base _ (l ++ leB (u64N x.owner) 8) _ xb 1 _ _ x.name 255 _ HP_v1.out (HS.out.frp H.out HF_v1.out) rfl (by (try simp only [List.length_append, leB_length, bitB_length, textB_length]); have := HL.out; have := HX.out; omega)).mono ?_; rintro e w2 ⟨⟨u_w2, rfl⟩, v2, hp_v2, hf_v2⟩; rw [manyBad_long, List.append_assoc, ← textB_eq] at hp_v2; have HP_v2 := Lib.hid hp_v2; have HF_v2 := Lib.hid (HF_v1.out.trans hf_v2); clear hp_v2 hf_v2)
    | (go_at_call 110; refine (numW_i64 p base _ (l) _ xb 0 x.owner _ H.out ((HS.out.frp H.out HF.out).blk.cell 0) (HS.out.frp H.out HF.out).blk.lt (by (try simp only [List.length_append, leB_length, bitB_length, textB_length]); have := HL.out; have := HX.out; omega)).mono ?_; rintro e w1 ⟨⟨u_w1, rfl⟩, v1, hp_v1, hf_v1⟩; have HP_v1 := Lib.hid hp_v1; have HF_v1 := Lib.hid (HF.out.trans hf_v1); clear hp_v1 hf_v1))
  refine bodyPost_end (v := .tuple #[]) (by simp [results, Try.results106, go_sem]) rfl ⟨⟨_, rfl⟩, v4, ?_, HF_v4.out⟩
  have e : l ++ bytesH x = l ++ leB (u64N x.owner) 8 ++ textB x.name ++ leB (u64N x.n) 8 ++ leB (u64N x.mode) 8 := by simp only [bytesH, List.append_assoc]
  rw [e]
  exact HP_v4.out
end Go.Proofs.Ytegogggemmcgdaa

/- codec: lists that are read. -/
namespace Go.Proofs.Ytegogggemmcgdaa
open Go Go.RowKit Go.Proofs

section
variable {α : Type}
def foldR (rs : RS → RS × α) : Nat → RS → List α → RS × List α
  | 0, s, acc => (s, acc)
  | k + 1, s, acc => if s.1 then (s, acc) else foldR rs k (rs s).1 (acc ++ [(rs s).2])
def listS (rs : RS → RS × α) (s : RS) (most : Int) : RS × List α := foldR rs (manyS s 0 most).2.toNat (manyS s 0 most).1 []
theorem foldR_bad (rs : RS → RS × α) (k : Nat) (l : Bs) (acc : List α) : foldR rs k (true, l) acc = ((true, l), acc) := by cases k <;> rfl
theorem foldR_zero (rs : RS → RS × α) (s : RS) (acc : List α) : foldR rs 0 s acc = (s, acc) := rfl
theorem foldR_succ (rs : RS → RS × α) (k : Nat) (l : Bs) (acc : List α) : foldR rs (k + 1) (false, l) acc = foldR rs k (rs (false, l)).1 (acc ++ [(rs (false, l)).2]) := rfl
def PartR (f : Nat) (t : TypeId) (enc : α → List Value) (zero : α) (rs : RS → RS × α) (p base : Nat) : Prop :=
  ∀ (w : World) (l : Bs) (xb : Nat), PipeR w p base (false, l) → base ≤ xb → Blk w xb t (enc zero) →
    Calls Try.prog f #[.pointer (some ⟨p, 0, none⟩), .pointer (some ⟨xb, 0, none⟩)] w fun e w' => (∃ u, e = .returned u) ∧ PipeR w' p base (rs (false, l)).1 ∧ Blk w' xb t (enc (rs (false, l)).2) ∧ Fr2 p xb w w'
end
def LRRel {α : Type} (rs : RS → RS × α) (enc : α → List Value) (w : World) (p base nb b o : Nat) (t et : TypeId) (sz : Nat) (cs : List Value) (N : Nat) (n2 : Int) (F : RS × List α) (g : Nat) (v9 : Value) (wr : World) : Prop :=
  ∃ (i : Nat) (v : Value) (s : RS) (xs : List α), i + g = N ∧ v9 = .int .i64 i ∧ PipeR wr p base s ∧ Blk wr b t (cs.set o v) ∧ Blk wr nb 3 [.int .i64 n2] ∧ wr.ownsRow (w.heap.size + 1) et sz v xs.length (xs.flatMap enc) ∧ xs.length = i ∧ foldR rs (N - i) s xs = F ∧ (s.1 = false → n2 = (N : Int) ∧ N ≤ 4096) ∧ Fr2 p b w wr
attribute [irreducible] foldR
theorem Fr2.pb {w w1 : World} {p xb : Nat} (h : Fr2 p xb w w1) (b : Nat) (w0 : World) (h0 : Fr2 p b w0 w) (hx : w0.heap.size ≤ xb) : Fr2 p b w0 w1 :=
  Fr.step (S := fun i => i = p ∨ i = b) h0 h fun i hi => by
    rcases hi with e | e
    · exact .inl (.inl e)
    · exact .inr (by omega)
theorem infoB_parts {e : TypeId} {sz : Nat} (h : (match Try.prog.info? e with
    | some i => (match i.zero with
      | some z => z.cells.size == sz && (i.size == sz && decide (i.bytes ≤ 100))
      | none => false)
    | none => false) = true) : ∃ i z, Try.prog.info? e = some i ∧ i.zero = some z ∧ z.cells.size = sz ∧ i.size = sz ∧ i.bytes ≤ 100 := by
  cases hi : Try.prog.info? e with
  | none => rw [hi] at h; cases h
  | some i =>
    rw [hi] at h
    simp only at h
    cases hz : i.zero with
    | none => rw [hz] at h; cases h
    | some z =>
      rw [hz] at h
      simp only [Bool.and_eq_true, beq_iff_eq, decide_eq_true_eq] at h
      exact ⟨i, z, rfl, hz, h.1, h.2.1, h.2.2⟩
theorem own_mono {w : World} {base base' n size : Nat} {e : TypeId} {v : Value} {xs : List Value} (h : w.ownsRow base e size v n xs) (hb : base' ≤ base) : w.ownsRow base' e size v n xs := by
  refine ⟨h.1, ?_⟩
  rcases h.2 with h0 | ⟨g, cap, cur, hv, hg, rest⟩
  · exact .inl h0
  · exact .inr ⟨g, cap, cur, hv, Nat.le_trans hb hg, rest⟩
theorem own_far {w : World} {base n size g : Nat} {e t : TypeId} {v : Value} {xs cs : List Value} (h : w.ownsRow base e size v n xs) (hB : Blk w g t cs) (ht : t ≠ e) (k : Nat) (hk : v.ownBlock = some k) : k ≠ g := by
  rintro rfl
  obtain ⟨cur, hc⟩ := row_type h k hk
  unfold Blk at hB
  rw [hB] at hc
  injection hc with hc
  injection hc with _ he
  exact ht he
theorem Blk.grown {w w' : World} {g : Nat} {t : TypeId} {cs : List Value} {v : Value} (h : Blk w g t cs) (hg : w.grownBy w' v.ownBlock) (hne : ∀ k, v.ownBlock = some k → k ≠ g) : Blk w' g t cs :=
  h.fr (Fr.of_grown hg) fun hk => hne g hk.symm rfl
theorem PipeR.blk {w : World} {p base : Nat} {s : RS} (h : PipeR w p base s) : ∃ cs, Blk w p 109 cs := by
  obtain ⟨A, c, e, hB, _⟩ := h
  exact ⟨_, hB⟩
set_option maxRecDepth 100000 in
set_option maxHeartbeats 4000000 in
theorem listR_int (rs : RS → RS × Int) (p base b o : Nat) (s : RS) (t : TypeId) (cs : List Value) (most : Nat) (w : World) (h : PipeR w p base s) (hp : base ≤ p) (hb : base ≤ b) (hB : Blk w b t cs) (hc : cs[o]? = some (.slice none 0 0)) (hbp : b ≠ p) (htb : t ≠ 3)
    (hmost : most ≤ 4096) (hpart : PartR 98 3 (fun x => [Value.int .i64 x]) (0 : Int) rs p base) :
    Calls Try.prog 97 #[.pointer (some ⟨p, 0, none⟩), .pointer (some ⟨b, o, none⟩), .int .i64 most, .func (.func 98) #[] #[]] w fun e w' => (∃ u, e = .returned u) ∧ PipeR w' p base (listS rs s most).1 ∧ (∃ v, Blk w' b t (cs.set o v) ∧ w'.ownsRow w.heap.size 3 1 v (listS rs s most).2.length ((listS rs s most).2.flatMap (fun x => [Value.int .i64 x]))) ∧ Fr2 p b w w' := by
  have n0 := (hB.cell o).trans hc
  have n1 := hB.lt
  have hol := (List.getElem?_eq_some_iff.1 hc).1
  have HPB := Lib.hid (show base ≤ w.heap.size by have := (PipeR.cells h).2.2.1; omega)
  have hwp : w.heap.size ≠ p := by have := (PipeR.cells h).2.2.1; omega
  have hwb : b ≠ w.heap.size := by have := hB.lt; omega
  have HN0 := Lib.hid (manyR_any p base w.heap.size 0 s 3 [.int .i64 0] 0 most _ (h.fr0 ((Fr.refl No w).alloc (Obj.cells #[.int .i64 0] 3))) hp HPB.out (Blk.new w 3 [.int .i64 0]) rfl hwp)
  have HFA := Lib.hid ((Fr.refl No w).alloc (Obj.cells #[.int .i64 0] 3))
  have HPT := Lib.hid hpart
  have HM := Lib.hid hmost
  have HB := Lib.hid hB
  have HC := Lib.hid hc
  have HOL := Lib.hid hol
  have hpos : (manyS s 0 most).1.1 = false → 0 ≤ (manyS s 0 most).2 ∧ (manyS s 0 most).2 ≤ most := fun hz => by
    unfold manyS at hz ⊢
    simp only [Bool.or_eq_false_iff, decide_eq_false_iff_not] at hz
    omega
  unfold listS
  obtain ⟨⟨⟨bd, rest⟩, n2⟩, hs1⟩ : ∃ x, x = manyS s 0 most := ⟨_, rfl⟩
  rw [← hs1] at HN0 hpos ⊢
  simp only at HN0 hpos ⊢
  obtain ⟨nb, hnb⟩ : ∃ nb, nb = w.heap.size := ⟨_, rfl⟩
  rw [← hnb] at HN0 hwp hwb
  have HNB := Lib.hid hnb
  clear hnb hs1 h hB hc hpart hmost hol
  obtain ⟨N, hNN⟩ : ∃ N, N = n2.toNat := ⟨_, rfl⟩
  rw [← hNN]
  have HNN := Lib.hid hNN
  clear hNN
  obtain ⟨F, hF⟩ : ∃ F, F = foldR rs N (bd, rest) [] := ⟨_, rfl⟩
  rw [← hF]
  have HF := Lib.hid hF
  clear hF
  go_enter Try.func97, Try.ntmps97
  go_wp2_with (rw [← HNB.out]; go_at_call 111; refine HN0.out.mono ?_; rintro e w1 ⟨⟨u1, rfl⟩, hp1, hb1, hf1⟩; have HP1 := Lib.hid hp1; have HN1 := Lib.hid hb1; have F1 : Fr2 p nb w w1 := (HFA.out.any _).trans hf1; have HF01 := Lib.hid F1; have B1 := HB.out.fr F1 (fun hk => by rcases hk with e | e; exact hbp e; exact hwb e); have HB1 := Lib.hid B1; clear hp1 hb1 hf1 F1 B1 n0 n1)
  have HPOS := Lib.hid hpos
  have HF1 := Lib.hid (HF01.out.new b (Nat.le_of_eq HNB.out.symm))
  have hbn := hwb
  clear hpos hwb
  go_loopg [9] N (fun g v9 wr => LRRel rs (fun x => [Value.int .i64 x]) w p base nb b o t 3 1 cs N n2 F g v9 wr)
  case atStart => exact ⟨0, .slice none 0 0, (bd, rest), [], by omega, rfl, HP1.out, by rw [set_self HC.out]; exact HB1.out, HN1.out, World.ownsRow_nil w1 _ _ _, rfl, HF.out.symm, fun hz => by have := HPOS.out hz; have := HM.out; have := HNN.out; omega, HF1.out⟩
  case round =>
    clear HP1 HN1 HF01 HB1 HF1
    obtain ⟨i, v, ⟨bi, li⟩, xs, hgi, rfl, hpr, hbl, hnl, hown, hxl, hfo, hst, hf⟩ := hrel
    have HP := Lib.hid hpr
    have HBL := Lib.hid hbl
    have HNL := Lib.hid hnl
    have HO := Lib.hid hown
    have HXL := Lib.hid hxl
    have HFO := Lib.hid hfo
    have HFR := Lib.hid hf
    have HST := Lib.hid hst
    have hi0 : (0 : Int) ≤ (i : Int) := by omega
    obtain ⟨c1, c2, c4, c3⟩ := hpr.cells
    simp only at c2
    have e0 := hnl.cell 0
    have e1 := hnl.lt
    simp only [List.getElem?_cons_zero] at e0
    clear hpr hbl hnl hown hxl hfo hst hf
    cases bi
    · obtain ⟨hn2, hN⟩ := HST.out rfl
      subst hn2
      by_cases hlt : i < N
      · have hlt1 : (i : Int) < (N : Int) := by omega
        obtain ⟨A, cA, rfl, _⟩ := own_shape HO.out
        have HPTw := Lib.hid (HPT.out (wr.alloc (Obj.cells ((fun x => [Value.int .i64 x]) (0 : Int)).toArray 3)) li wr.heap.size (HP.out.fr0 ((Fr.refl No wr).alloc _)) (Nat.le_trans HPB.out HFR.out.size) (Blk.new wr 3 ((fun x => [Value.int .i64 x]) (0 : Int))))
        have hFx := HFO.out
        rw [show N - i = (N - i - 1) + 1 by omega, foldR_succ] at hFx
        have HFX := Lib.hid hFx
        clear hFx
        go_wp2_with (first
          | (go_at_call 98; refine HPTw.out.mono ?_; rintro e w2 ⟨⟨u2, rfl⟩, hp2, hx2, hf2⟩; have HP2 := Lib.hid hp2; have HX2 := Lib.hid hx2; have HF2 := Lib.hid hf2; obtain ⟨d1, d2, d4, d3⟩ := hp2.cells; clear hp2 hx2 hf2))
        obtain ⟨iT, zT, hiT, hzT, hzs, hsT, hbT⟩ := infoB_parts (e := 3) (sz := 1) (by kernel_rfl)
        obtain ⟨y, hy⟩ : ∃ y, y = (rs (false, li)).2 := ⟨_, rfl⟩
        rw [← hy] at HX2 HFX
        obtain ⟨s2, hs2⟩ : ∃ s2, s2 = (rs (false, li)).1 := ⟨_, rfl⟩
        rw [← hs2] at HP2 HFX
        clear hy hs2
        have hx2 := HX2.out
        have x0 := hx2.cell 0
        have xl := hx2.lt
        have hbx : b ≠ wr.heap.size := by have := HBL.out.lt; omega
        have B2 := (HBL.out.alloc (Obj.cells ((fun x => [Value.int .i64 x]) (0 : Int)).toArray 3)).fr HF2.out (fun hk => by rcases hk with e | e; exact hbp e; exact hbx e)
        have N2 := (HNL.out.alloc (Obj.cells ((fun x => [Value.int .i64 x]) (0 : Int)).toArray 3)).fr HF2.out (fun hk => by rcases hk with e | e; exact hwp e; have := HNL.out.lt; omega)
        obtain ⟨pc, hpc⟩ := HP.out.blk
        have O2 := own_fr (own_fr0 HO.out ((Fr.refl No wr).alloc (Obj.cells ((fun x => [Value.int .i64 x]) (0 : Int)).toArray 3))) HF2.out (fun k hk hS => by
          rcases hS with e | e
          · exact own_far HO.out hpc (by decide) k hk e
          · have := (own_size HO.out k hk).2; omega)
        have m0 := B2.cell o
        rw [List.getElem?_set_self HOL.out] at m0
        have m1 := B2.lt
        have F2 : Fr2 p b w w2 := Fr2.pb HF2.out b w (Fr.alloc HFR.out _) HFR.out.size
        have HF2' := Lib.hid F2
        have HB2 := Lib.hid B2
        have HN2 := Lib.hid N2
        have HO2 := Lib.hid O2
        have HYL := Lib.hid (show (xs ++ [y]).length = xs.length + 1 by simp)
        have HYF := Lib.hid (show xs.flatMap (fun x => [Value.int .i64 x]) ++ (fun x => [Value.int .i64 x]) y = (xs ++ [y]).flatMap (fun x => [Value.int .i64 x]) by simp)
        clear hx2 B2 N2 O2 F2 hpc e0 e1 c1 c2 c3 c4
        refine wp_region_o [(0, 0), (1, 0), (2, 0), (3, 1), (4, 1), (5, 2), (6, 3), (7, 0), (8, 3)] (by kernel_rfl) (by kernel_rfl) ?_
        repeat (first
          | (apply wpO_pure rfl rfl; (focus (intro w'; go_simp; (try rfl); done)); try simp only [Act.put, List.setIfInBounds_toArray, List.set_cons_zero, List.set_cons_succ])
          | (apply wpO_read rfl rfl; (focus (intro w' hf' hs'; (try simp only [World.size_drew, World.cell?_drew, World.size_alloc, World.size_setCell] at hs'); go_simp; (try rfl); done)); try simp only [Act.put, List.setIfInBounds_toArray, List.set_cons_zero, List.set_cons_succ])
          | (apply wpO_skip (by decide) rfl rfl; try simp only [Act.put, List.setIfInBounds_toArray, List.set_cons_zero, List.set_cons_succ]))
        refine wpO_loudE rfl fun K hK => ?_
        go_simp
        refine hK _ _ ⟨by (repeat (first | exact Fr.refl _ _ | assumption | refine Fr.drew ?_ | refine Fr.alloc ?_ _ | refine Fr.drewL ?_)), ?_⟩
        clear hK K
        repeat (first
          | (apply wpO_pure rfl rfl; (focus (intro w'; go_simp; (try rfl); done)); try simp only [Act.put, List.setIfInBounds_toArray, List.set_cons_zero, List.set_cons_succ])
          | (apply wpO_read rfl rfl; (focus (intro w' hf' hs'; (try simp only [World.size_drew, World.cell?_drew, World.size_alloc, World.size_setCell] at hs'); go_simp; (try rfl); done)); try simp only [Act.put, List.setIfInBounds_toArray, List.set_cons_zero, List.set_cons_succ])
          | (apply wpO_skip (by decide) rfl rfl; try simp only [Act.put, List.setIfInBounds_toArray, List.set_cons_zero, List.set_cons_succ]))
        have O3 := own_fr0 HO2.out (((Fr.refl No w2).alloc (Obj.cells ((fun x => [Value.int .i64 x]) y).toArray 3)).drew)
        refine wpO_loud rfl fun K hK => ?_
        refine step_append_owned (by rfl) (.tmp 51) (.tmp 53) 23 (by rfl) (w.heap.size + 1) 3 iT zT 1 iT.bytes Try.underlying23 hiT hzT hsT rfl hzs (by omega) (.slice A xs.length cA) xs.length (xs.flatMap (fun x => [Value.int .i64 x])) (by rfl) O3 (some ⟨w2.heap.size, 0, none⟩) 1 1 3 ((fun x => [Value.int .i64 x]) y) (by rfl) (Sl.of_new w2 3 1 1 ((fun x => [Value.int .i64 x]) y).toArray ((fun x => [Value.int .i64 x]) y) rfl rfl).drew (List.all_eq_true.1 (by rfl)) (by have := HXL.out; simp only [maxLen]; omega) (by
          have := HXL.out
          have h1 : (xs.length + 1) * iT.bytes ≤ 4097 * 100 := Nat.mul_le_mul (by omega) hbT
          omega) (by have := HF2'.out.size; have := HPB.out; have := HNL.out.lt; have := HF2.out.size; have := HNB.out; simp only [World.size_drew, World.size_alloc] at *; omega) ?_
        intro v2 w3 ho3 hg3 hat3
        refine hK _ _ ?_
        clear hK K
        try simp only [Act.put, List.setIfInBounds_toArray, List.set_cons_zero, List.set_cons_succ]
        have B3 := Blk.grown (HB2.out.alloc (Obj.cells ((fun x => [Value.int .i64 x]) y).toArray 3)).drew hg3 (fun k hk => own_far O3 (HB2.out.alloc (Obj.cells ((fun x => [Value.int .i64 x]) y).toArray 3)).drew htb k hk)
        have N3 := Blk.grown (HN2.out.alloc (Obj.cells ((fun x => [Value.int .i64 x]) y).toArray 3)).drew hg3 (fun k hk => by have := (own_size O3 k hk).1; have := HNB.out; omega)
        have P2 := HP2.out.fr0 ((Fr.refl No w2).alloc (Obj.cells ((fun x => [Value.int .i64 x]) y).toArray 3)).drew
        obtain ⟨pc, hpc⟩ := P2.blk
        have P3 : PipeR w3 p base s2 := P2.fr (Fr.of_grown hg3) (fun hk => own_far O3 hpc (by decide) p hk.symm rfl) (fun k hk => by have := (own_size O3 k hk.symm).1; have := HPB.out; have := HNB.out; omega)
        have G3 : Fr2 p b w w3 := Fr.grown (S := fun i => i = p ∨ i = b) (HF2'.out.alloc (Obj.cells ((fun x => [Value.int .i64 x]) y).toArray 3)).drew hg3 (fun k hk => .inr (by have := (own_size O3 k hk).1; omega))
        obtain ⟨A3, cA3, rfl, _⟩ := own_shape ho3
        have ho3' : w3.ownsRow (w.heap.size + 1) 3 1 (.slice A3 (xs.length + 1) cA3) (xs ++ [y]).length ((xs ++ [y]).flatMap (fun x => [Value.int .i64 x])) := by rw [HYL.out, ← HYF.out]; exact ho3
        have q0 := B3.cell o
        have q1 := B3.lt
        have q2 := B3.frozens
        rw [List.getElem?_set_self HOL.out] at q0
        have HO3 := Lib.hid ho3'
        have HB3 := Lib.hid B3
        have HN3 := Lib.hid N3
        have HP3 := Lib.hid P3
        have HG3 := Lib.hid G3
        clear ho3 ho3' hg3 hat3 B3 N3 P2 pc hpc P3 G3 O3 HO2 HB2 HN2 HP2 HF2' HYF m0 m1
        repeat (first
          | (apply wpO_pure rfl rfl; (focus (intro w'; go_simp; (try rfl); done)); try simp only [Act.put, List.setIfInBounds_toArray, List.set_cons_zero, List.set_cons_succ])
          | (apply wpO_read rfl rfl; (focus (intro w' hf' hs'; (try simp only [World.size_drew, World.cell?_drew, World.size_alloc, World.size_setCell] at hs'); go_simp; (try rfl); done)); try simp only [Act.put, List.setIfInBounds_toArray, List.set_cons_zero, List.set_cons_succ])
          | (apply wpO_skip (by decide) rfl rfl; try simp only [Act.put, List.setIfInBounds_toArray, List.set_cons_zero, List.set_cons_succ]))
        refine wpO_loud rfl fun K hK => ?_
        go_simp
        refine hK _ _ ?_
        clear hK K
        repeat (first
          | (apply wpO_pure rfl rfl; (focus (intro w'; go_simp; (try rfl); done)); try simp only [Act.put, List.setIfInBounds_toArray, List.set_cons_zero, List.set_cons_succ])
          | (apply wpO_read rfl rfl; (focus (intro w' hf' hs'; (try simp only [World.size_drew, World.cell?_drew, World.size_alloc, World.size_setCell] at hs'); go_simp; (try rfl); done)); try simp only [Act.put, List.setIfInBounds_toArray, List.set_cons_zero, List.set_cons_succ])
          | (apply wpO_skip (by decide) rfl rfl; try simp only [Act.put, List.setIfInBounds_toArray, List.set_cons_zero, List.set_cons_succ]))
        refine wpO_nil ?_
        go_wp2
        go_roundg (N - (i + 1))
        case measure => omega
        case rel =>
          have hpx := (HB3.out.set_ o (.slice A3 (xs.length + 1) cA3))
          rw [List.set_set] at hpx
          refine ⟨i + 1, _, s2, xs ++ [y], by omega, by go_num, HP3.out.fr (S := fun i => i = b) ((Fr.refl (fun i => i = b) w3).setCell (p := ⟨b, o, none⟩) (.inl rfl) (.slice A3 (xs.length + 1) cA3)) (fun e => hbp e.symm) (fun k hk => hk ▸ hb), hpx, HN3.out.far (p := ⟨b, o, none⟩) (fun e => hbn e.symm) _, own_fr HO3.out ((Fr.refl (fun i => i = b) w3).setCell (p := ⟨b, o, none⟩) (.inl rfl) _) (fun k hk hS => own_far HO3.out HB3.out htb k hk hS), by have := HYL.out; have := HXL.out; omega, ?_, fun _ => ⟨rfl, hN⟩, Fr.setCell HG3.out (p := ⟨b, o, none⟩) (.inl (.inr rfl)) _⟩
          rw [Nat.sub_sub] at HFX
          exact HFX.out
      · have hlt1 : ¬ (i : Int) < (N : Int) := by omega
        have hFx := HFO.out
        rw [show N - i = 0 by omega, foldR_zero] at hFx
        have HFX := Lib.hid hFx
        clear hFx
        go_wp2
        refine bodyPost_end (v := .tuple #[]) (by simp [results, Try.results97, go_sem]) rfl ⟨⟨_, rfl⟩, ?_, ?_, HFR.out⟩
        · rw [← HFX.out]; exact HP.out
        · rw [← HFX.out]; exact ⟨v, HBL.out, own_mono HO.out (Nat.le_succ _)⟩
    · have hFx := HFO.out
      rw [foldR_bad] at hFx
      have HFX := Lib.hid hFx
      clear hFx
      by_cases hlt : (i : Int) < n2
      · go_wp2
        refine bodyPost_end (v := .tuple #[]) (by simp [results, Try.results97, go_sem]) rfl ⟨⟨_, rfl⟩, ?_, ?_, HFR.out⟩
        · rw [← HFX.out]; exact HP.out
        · rw [← HFX.out]; exact ⟨v, HBL.out, own_mono HO.out (Nat.le_succ _)⟩
      · go_wp2
        refine bodyPost_end (v := .tuple #[]) (by simp [results, Try.results97, go_sem]) rfl ⟨⟨_, rfl⟩, ?_, ?_, HFR.out⟩
        · rw [← HFX.out]; exact HP.out
        · rw [← HFX.out]; exact ⟨v, HBL.out, own_mono HO.out (Nat.le_succ _)⟩
end Go.Proofs.Ytegogggemmcgdaa
