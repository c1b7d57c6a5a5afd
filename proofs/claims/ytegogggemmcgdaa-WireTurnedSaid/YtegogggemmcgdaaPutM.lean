/- wire.Put: a message as bytes. -/
import Derived.Test.YtegogggemmcgdaaPut
import Derived.Test.YtegogggemmcgdaaSumL
namespace Go.Proofs.Ytegogggemmcgdaa
open Go Go.RowKit Go.Proofs

def u64N (x : Int) : Nat := (x % 18446744073709551616).toNat
def u8B (x : Int) : UInt8 := UInt8.ofNat (x % 256).toNat
theorem u8B_toNat (x : Int) : ((u8B x).toNat : Int) = x % 256 := by
  have : (u8B x).toNat = (x % 256).toNat % 256 := UInt8.toNat_ofNat'
  omega
theorem u64N_lt (x : Int) : u64N x < 18446744073709551616 := by unfold u64N; omega
theorem u64N_cast (x : Int) : ((u64N x : Nat) : Int) = x % 18446744073709551616 := by unfold u64N; omega
def headM (m : Msg) : Bs := [167, u8B m.frm, u8B m.to_, u8B m.kind]
def numsM (m : Msg) : List Int := [m.n, m.low, m.mins, m.code]
def numB (l : List Int) : Bs := l.flatMap fun x => leB (u64N x) 8
def textM (m : Msg) : Bs := UInt8.ofNat m.text.size :: m.text.data.toList
/-- all but the sum -/
def frontM (m : Msg) : Bs := headM m ++ numB (numsM m) ++ textM m
def bytesM (m : Msg) : Bs := frontM m ++ leB (crc (frontM m)) 4
theorem numB_length (l : List Int) : (numB l).length = 8 * l.length := by
  induction l with
  | nil => rfl
  | cons x l ih => simp only [numB, List.flatMap_cons, List.length_append, leB_length, List.length_cons] at ih ⊢; omega
theorem frontM_length (m : Msg) : (frontM m).length = 37 + m.text.size := by
  simp only [frontM, List.length_append, numB_length]
  have : m.text.data.toList.length = m.text.size := Array.length_toList
  simp only [headM, numsM, textM, List.length_cons, List.length_nil, this]
  omega
theorem bytesM_length (m : Msg) : (bytesM m).length = 41 + m.text.size := by
  rw [bytesM, List.length_append, frontM_length, leB_length]
  omega
theorem putI_any (base : Nat) (v : Value) (l : Bs) (x : Int) (k : Nat) (w : World) (h : Buf w base v l) (hb : base ≤ w.heap.size) (h0 : 0 ≤ x) (hn : x < 18446744073709551616) (hk : k ≤ 8) (hl : l.length ≤ 150000000000000) :
    Calls Try.prog 84 #[v, .int .u64 x, .int .i64 k] w fun e w' => ∃ v', e = .returned v' ∧ Buf w' base v' (l ++ leB x.toNat k) ∧ Fr (U8 base w) w w' := by
  have e : x = ((x.toNat : Nat) : Int) := by omega
  rw [e]
  exact put_any base v l x.toNat k w h hb (by omega) hk hl
def PMRel (w0 : World) (m : Msg) (G : Nat) (g : Nat) (v4 v29 : Value) (wr : World) : Prop :=
  ∃ (i : Nat) (v : Value), i + g = 4 ∧ v29 = .int .i64 i ∧ v = v4 ∧ Buf wr w0.heap.size v (headM m ++ numB ((numsM m).take i)) ∧ Blk wr G 28 m.vals ∧ Fr No w0 wr
theorem u64N_def (x : Int) : u64N x = (x % 18446744073709551616).toNat := rfl
theorem enc8_head (m : Msg) : enc8 (headM m) = [.int .u8 167, .int .u8 (m.frm % 256), .int .u8 (m.to_ % 256), .int .u8 (m.kind % 256)] := by
  simp only [enc8, headM, List.map_cons, List.map_nil, u8B_toNat]
  rfl
theorem head_buf (m : Msg) (w : World) (base : Nat) (hb : base ≤ w.heap.size) :
    Buf (w.alloc (Obj.cells #[.int .u8 167, .int .u8 (m.frm % 256), .int .u8 (m.to_ % 256), .int .u8 (m.kind % 256)] 5)) base (.slice (some ⟨w.heap.size, 0, none⟩) 4 4) (headM m ++ numB ((numsM m).take 0)) := by
  have h := World.ownsRow_lit (base := base) (e := 5) (size := 1) w #[.int .u8 167, .int .u8 (m.frm % 256), .int .u8 (m.to_ % 256), .int .u8 (m.kind % 256)] 4 hb (by decide) rfl
  have e : headM m ++ numB ((numsM m).take 0) = headM m := by simp [numB]
  rw [e, Buf, enc8_head]
  exact h
theorem nums_at (m : Msg) (i : Nat) (x : Int) (hx : (numsM m)[i]? = some x) (w : World) : (Instr.index 146 (.agg #[.int .i64 m.n, .int .i64 m.low, .int .i64 m.mins, .int .i64 m.code]) (.int .i64 (i : Int))).run Try.prog w = .ok (.int .i64 x) w := by
  have i0 : ∀ (a b c d : Value) (w : World), (Instr.index 146 (.agg #[a, b, c, d]) (.int .i64 0)).run Try.prog w = .ok a w := fun _ _ _ _ _ => by kernel_rfl
  have i1 : ∀ (a b c d : Value) (w : World), (Instr.index 146 (.agg #[a, b, c, d]) (.int .i64 1)).run Try.prog w = .ok b w := fun _ _ _ _ _ => by kernel_rfl
  have i2 : ∀ (a b c d : Value) (w : World), (Instr.index 146 (.agg #[a, b, c, d]) (.int .i64 2)).run Try.prog w = .ok c w := fun _ _ _ _ _ => by kernel_rfl
  have i3 : ∀ (a b c d : Value) (w : World), (Instr.index 146 (.agg #[a, b, c, d]) (.int .i64 3)).run Try.prog w = .ok d w := fun _ _ _ _ _ => by kernel_rfl
  match i, hx with
  | 0, hx => simp only [numsM, List.getElem?_cons_zero, Option.some.injEq] at hx; subst hx; exact i0 _ _ _ _ _
  | 1, hx => simp only [numsM, List.getElem?_cons_zero, List.getElem?_cons_succ, Option.some.injEq] at hx; subst hx; exact i1 _ _ _ _ _
  | 2, hx => simp only [numsM, List.getElem?_cons_zero, List.getElem?_cons_succ, Option.some.injEq] at hx; subst hx; exact i2 _ _ _ _ _
  | 3, hx => simp only [numsM, List.getElem?_cons_zero, List.getElem?_cons_succ, Option.some.injEq] at hx; subst hx; exact i3 _ _ _ _ _
  | k + 4, hx => simp [numsM] at hx
theorem headM_length (m : Msg) : (headM m).length = 4 := rfl
theorem numsM_length (m : Msg) : (numsM m).length = 4 := rfl
theorem numB_take {l : List Int} {i : Nat} {x : Int} (hx : l[i]? = some x) : numB (l.take (i + 1)) = numB (l.take i) ++ leB (u64N x) 8 := by
  rw [List.take_add_one, hx, numB, List.flatMap_append]
  simp [numB]
theorem frontM_eq (m : Msg) : frontM m = headM m ++ numB (numsM m) ++ textM m := rfl
theorem bytesM_eq (m : Msg) : bytesM m = frontM m ++ leB (crc (frontM m)) 4 := rfl
theorem textM_eq (m : Msg) : textM m = UInt8.ofNat m.text.size :: m.text.data.toList := rfl
theorem right_len {m : Msg} (h : rightB m = true) : m.text.size ≤ 20 := by
  simp only [rightB, Bool.and_eq_true, decide_eq_true_eq] at h
  exact h.2.2
theorem numB_nil : numB [] = [] := rfl
theorem frontM_nums (m : Msg) : frontM m = headM m ++ leB (u64N m.n) 8 ++ leB (u64N m.low) 8 ++ leB (u64N m.mins) 8 ++ leB (u64N m.code) 8 ++ textM m := by
  simp [frontM, numsM, numB]
theorem headM_def (m : Msg) : headM m = [167, u8B m.frm, u8B m.to_, u8B m.kind] := rfl
attribute [irreducible] u64N u8B headM numB numsM
set_option maxRecDepth 100000 in
set_option maxHeartbeats 2000000 in
theorem putM_bad (m : Msg) (w : World) (hr : rightB m = false) :
    Calls Try.prog 47 #[m.val] w fun e w' => e = .returned (.tuple #[.slice none 0 0, .int .i64 1]) ∧ Fr No w w' := by
  have HR := Lib.hid hr
  clear hr
  go_enter Try.func47, Try.ntmps47
  go_wp2_with (go_at_call 52; refine (msgRight_any m _).mono ?_; rintro e w1 ⟨rfl, hf1⟩; have F1 := Lib.hid hf1; rw [HR.out]; clear hf1)
  go_ret2
  exact ⟨by rfl, ((Fr.refl No w).alloc _).trans F1.out⟩
set_option maxRecDepth 100000 in
set_option maxHeartbeats 2000000 in
theorem putM_ok (m : Msg) (w : World) (hr : rightB m = true) :
    Calls Try.prog 47 #[m.val] w fun e w' => ∃ A c, e = .returned (.tuple #[.slice A (bytesM m).length c, .int .i64 0]) ∧ Buf w' w.heap.size (.slice A (bytesM m).length c) (bytesM m) ∧ Fr No w w' := by
  have HR := Lib.hid hr
  clear hr
  go_enter Try.func47, Try.ntmps47
  go_wp2_with (go_at_call 52; refine (msgRight_any m _).mono ?_; rintro e w1 ⟨rfl, hf1⟩; have F1 := Lib.hid hf1; have B1 := (Blk.new w 28 m.vals).fr hf1 (fun h => h); obtain ⟨r0, r1, r2, r3, r4, r5, r6, r7⟩ := B1.cells8; have HB1 := Lib.hid B1; have l1 := B1.lt; rw [HR.out]; clear hf1 B1)
  have hsz : w.heap.size + 1 ≤ w1.heap.size := by have := F1.out.size; simpa using this
  have HH := Lib.hid (head_buf m w1 w.heap.size (by omega))
  have HB2 := Lib.hid (HB1.out.alloc (Obj.cells #[.int .u8 167, .int .u8 (m.frm % 256), .int .u8 (m.to_ % 256), .int .u8 (m.kind % 256)] 5))
  have HF2 := Lib.hid ((((Fr.refl No w).alloc _).trans F1.out).alloc (Obj.cells #[.int .u8 167, .int .u8 (m.frm % 256), .int .u8 (m.to_ % 256), .int .u8 (m.kind % 256)] 5))
  clear r0 r1 r2 r3 r4 r5 r6 r7 l1 HB1 F1
  obtain ⟨G, hG⟩ : ∃ G, G = w.heap.size := ⟨_, rfl⟩
  rw [← hG] at HB2
  rw [show (Value.pointer (some ⟨w.heap.size, 0, none⟩)) = Value.pointer (some ⟨G, 0, none⟩) by rw [hG]]
  have HGw := Lib.hid hG
  clear hG
  go_loopg [4, 29] 4 (fun g v4 v29 wr => PMRel w m G g v4 v29 wr)
  case atStart => exact ⟨0, _, by omega, rfl, rfl, HH.out, HB2.out, HF2.out⟩
  case round =>
    clear HH HB2 HF2 hsz
    obtain ⟨i, v, hg, rfl, rfl, ho, hb, hf⟩ := hrel
    have HO := Lib.hid ho
    have HB := Lib.hid hb
    have HF := Lib.hid hf
    have hi0 : (0 : Int) ≤ (i : Int) := by omega
    clear ho hb hf
    by_cases hi : i < 4
    · have hi1 : (i : Int) < 4 := by omega
      obtain ⟨x, hx⟩ : ∃ x, (numsM m)[i]? = some x := ⟨_, List.getElem?_eq_getElem (by rw [numsM_length]; exact hi)⟩
      have hix := nums_at m i x hx
      have HX := Lib.hid (numB_take hx)
      have hlen : (headM m ++ numB ((numsM m).take i)).length ≤ 150000000000000 := by
        rw [List.length_append, numB_length, List.length_take]
        have := headM_length m
        omega
      have hx0 : 0 ≤ x % 18446744073709551616 := by omega
      have hx1 : x % 18446744073709551616 < 18446744073709551616 := by omega
      clear hx
      go_wp2_with (go_at_call 84; refine (putI_any w.heap.size v _ (x % 18446744073709551616) 8 _ HO.out HF.out.size hx0 hx1 (by omega) hlen).mono ?_; rintro e w2 ⟨v2, rfl, ho2, hf2⟩)
      go_roundg (4 - (i + 1))
      case measure => omega
      case rel => exact ⟨i + 1, v2, by omega, by go_num, rfl, by rw [HX.out, u64N_def, ← List.append_assoc]; exact ho2, HB.out.u8 hf2 (by decide), U8.since HF.out hf2⟩
    · have hi1 : (4 : Int) ≤ (i : Int) := by omega
      obtain rfl : i = 4 := by omega
      have hall : (numsM m).take 4 = numsM m := List.take_of_length_le (by rw [numsM_length]; omega)
      rw [hall] at HO
      obtain ⟨pre, hpre⟩ : ∃ pre, pre = headM m ++ numB (numsM m) := ⟨_, rfl⟩
      rw [← hpre] at HO
      have hplen : pre.length = 36 := by rw [hpre, List.length_append, numB_length, headM_length, numsM_length]
      have HP := Lib.hid (frontM_eq m)
      rw [← hpre] at HP
      have HFL := Lib.hid (frontM_length m)
      have hml : m.text.size ≤ 20 := right_len HR.out
      clear hpre hall
      obtain ⟨s0, s1, s2, s3, s4, s5, s6, s7⟩ := HB.out.cells8
      have lG := HB.out.lt
      have hm0 : (0 : Int) ≤ (m.text.size : Int) := by omega
      have hm1 : (m.text.size : Int) ≤ 20 := by omega
      obtain ⟨A4, c4, rfl, _⟩ := own_shape HO.out
      obtain ⟨bv, rfl⟩ := buf_some HO.out (by omega)
      have nb := buf_ne HO.out HB.out (by decide)
      rw [hplen] at HO
      go_wp2
      refine OS.wp_region_o (fun k => k = bv) [(0, 0), (1, 0), (7, 0), (2, 1), (8, 1), (3, 1), (4, 0), (5, 2), (6, 2), (9, 3), (10, 0)] (by kernel_rfl) (by kernel_rfl) ?_
      repeat (first
        | (apply OS.wpO_pure rfl rfl; (focus (intro w'; go_simp; (try rfl); done)); try simp only [Act.put, List.setIfInBounds_toArray, List.set_cons_zero, List.set_cons_succ])
        | (apply OS.wpO_read rfl rfl; (focus (intro w' hf' hs'; (try simp only [World.size_drew, World.cell?_drew, World.size_alloc, World.size_setCell, not_false_eq_true, forall_const] at hs'); go_simp; (try rfl); done)); try simp only [Act.put, List.setIfInBounds_toArray, List.set_cons_zero, List.set_cons_succ])
        | (apply OS.wpO_skip (by decide) rfl rfl; try simp only [Act.put, List.setIfInBounds_toArray, List.set_cons_zero, List.set_cons_succ]))
      refine OS.wpO_loudE rfl fun K hK => ?_
      go_simp
      refine hK _ _ ⟨by (repeat (first | exact Fr.refl _ _ | assumption | refine Fr.drew ?_ | refine Fr.alloc ?_ _ | refine Fr.drewL ?_)), ?_⟩
      clear hK K
      repeat (first
        | (apply OS.wpO_pure rfl rfl; (focus (intro w'; go_simp; (try rfl); done)); try simp only [Act.put, List.setIfInBounds_toArray, List.set_cons_zero, List.set_cons_succ])
        | (apply OS.wpO_read rfl rfl; (focus (intro w' hf' hs'; (try simp only [World.size_drew, World.cell?_drew, World.size_alloc, World.size_setCell, not_false_eq_true, forall_const] at hs'); go_simp; (try rfl); done)); try simp only [Act.put, List.setIfInBounds_toArray, List.set_cons_zero, List.set_cons_succ])
        | (apply OS.wpO_skip (by decide) rfl rfl; try simp only [Act.put, List.setIfInBounds_toArray, List.set_cons_zero, List.set_cons_succ]))
      simp only [IntKind.wrap_u8]
      have FA := ((Fr.refl No wr).alloc (Obj.cells #[.int .u8 ((m.text.size : Int) % 256)] 5)).drew
      have hO2 : (wr.alloc (Obj.cells #[.int .u8 ((m.text.size : Int) % 256)] 5)).drew.ownsRow w.heap.size 5 1 (.slice (some ⟨bv, 0, none⟩) 36 c4) pre.length (enc8 pre) := own_fr0 HO.out FA
      refine OS.wpO_loudE rfl fun K hK => ?_
      refine step_buf_append (by rfl) (.tmp 37) (.tmp 42) (by rfl) (w.heap.size) (.slice (some ⟨bv, 0, none⟩) 36 c4) (pre) (by rfl) (hO2) (_) (1) (1) (_) ([UInt8.ofNat m.text.size]) (by rfl) ((sl_byte wr m.text.size).drew) (by omega) (by have := HF.out.size; simp only [World.size_drew, World.size_alloc]; omega) ?_
      intro v2 w2 ho_v2 hg_v2
      refine hK _ _ ⟨(Fr.of_grown hg_v2).mono (fun k _ hk => Option.some.inj hk), ?_⟩
      clear hK K
      try simp only [Act.put, List.setIfInBounds_toArray, List.set_cons_zero, List.set_cons_succ]
      have F2 := U8.grown ((Fr.refl (U8 w.heap.size (wr.alloc (Obj.cells #[.int .u8 ((m.text.size : Int) % 256)] 5)).drew) _)) hO2 hg_v2
      refine OS.wpO_loud rfl fun K hK => ?_
      refine step_str_append (by rfl) (.tmp 43) (.tmp 45) (by rfl) (w.heap.size) (v2) (pre ++ [UInt8.ofNat m.text.size]) (by rfl) (ho_v2) (m.text) (by rfl) (by rw [List.length_append, hplen]; simp only [List.length_cons, List.length_nil]; omega) (by have := HF.out.size; have := F2.size; simp only [World.size_drew, World.size_alloc] at this; omega) ?_
      intro v3 w3 ho_v3 hg_v3
      refine hK _ _ ?_
      clear hK K
      try simp only [Act.put, List.setIfInBounds_toArray, List.set_cons_zero, List.set_cons_succ]
      have F3 := U8.grown F2 ho_v2 hg_v3
      have HF3 := Lib.hid (U8.since (HF.out.trans FA) F3)
      have e3 : pre ++ [UInt8.ofNat m.text.size] ++ m.text.data.toList = frontM m := by rw [HP.out, textM, List.append_assoc]; rfl
      rw [e3] at ho_v3
      obtain ⟨A3, c3, rfl, _⟩ := own_shape ho_v3
      have HO3 := Lib.hid ho_v3
      clear ho_v3 ho_v2 hg_v2 hg_v3 F2 F3 FA hO2 e3 HP
      have hcl := crc_lt (frontM m)
      obtain ⟨cv, hcv⟩ : ∃ cv, cv = crc (frontM m) := ⟨_, rfl⟩
      rw [← hcv] at hcl
      have HCV := Lib.hid hcv
      clear hcv
      have hcv0 : (0 : Int) ≤ (cv : Int) := by omega
      repeat (first
        | (apply OS.wpO_pure rfl rfl; (focus (intro w'; go_simp; (try rfl); done)); try simp only [Act.put, List.setIfInBounds_toArray, List.set_cons_zero, List.set_cons_succ])
        | (apply OS.wpO_read rfl rfl; (focus (intro w' hf' hs'; (try simp only [World.size_drew, World.cell?_drew, World.size_alloc, World.size_setCell, not_false_eq_true, forall_const] at hs'); go_simp; (try rfl); done)); try simp only [Act.put, List.setIfInBounds_toArray, List.set_cons_zero, List.set_cons_succ])
        | (apply OS.wpO_skip (by decide) rfl rfl; try simp only [Act.put, List.setIfInBounds_toArray, List.set_cons_zero, List.set_cons_succ]))
      refine OS.wpO_nil ?_
      go_wp2_with (first
        | (go_at_call 85; refine (sum_any A3 c3 _ (frontM m) _ (Sl.of_own HO3.out) (by rw [HFL.out]; simp only [maxLen]; omega)).mono ?_; rintro e w4 ⟨rfl, hf4⟩; have HF4 := Lib.hid hf4; rw [← HCV.out]; clear hf4)
        | (go_at_call 84; refine (put_any w.heap.size _ (frontM m) cv 4 _ (own_fr0 HO3.out HF4.out) (HF3.out.trans HF4.out).size (by omega) (by omega) (by rw [HFL.out]; omega)).mono ?_; rintro e w5 ⟨v5, rfl, ho5, hf5⟩; rw [HCV.out, ← bytesM_eq] at ho5; obtain ⟨A5, c5, rfl, _⟩ := own_shape ho5; have HO5 := Lib.hid ho5; have HF5 := Lib.hid (U8.since (HF3.out.trans HF4.out) hf5); clear ho5 hf5))
      go_ret2
      exact ⟨A5, c5, by rfl, HO5.out, HF5.out⟩
end Go.Proofs.Ytegogggemmcgdaa
