/- the reference's Put: a message as bytes. -/
import Derived.Test.YtegogggemmcgdaaPutM
import Derived.Test.YtegogggemmcgdaaRefA
namespace Go.Proofs.Ytegogggemmcgdaa
open Go Go.RowKit Go.Proofs

theorem refPutI_any (base : Nat) (v : Value) (l : Bs) (x : Int) (k : Nat) (w : World) (h : Buf w base v l) (hb : base ≤ w.heap.size) (h0 : 0 ≤ x) (hn : x < 18446744073709551616) (hk : k ≤ 8) (hl : l.length ≤ 150000000000000) :
    Calls Try.prog 87 #[v, .int .u64 x, .int .i64 k] w fun e w' => ∃ v', e = .returned v' ∧ Buf w' base v' (l ++ leB x.toNat k) ∧ Fr (U8 base w) w w' := by
  have e : x = ((x.toNat : Nat) : Int) := by omega
  rw [e]
  exact refPut_any base v l x.toNat k w h hb (by omega) hk hl
theorem head_buf' (m : Msg) (w : World) (base : Nat) (hb : base ≤ w.heap.size) :
    Buf (w.alloc (Obj.cells #[.int .u8 167, .int .u8 (m.frm % 256), .int .u8 (m.to_ % 256), .int .u8 (m.kind % 256)] 5)) base (.slice (some ⟨w.heap.size, 0, none⟩) 4 4) (headM m) := by
  have h := head_buf m w base hb
  have e : headM m ++ numB ((numsM m).take 0) = headM m := by simp [numB_nil]
  rw [e] at h
  exact h
theorem frontM_flat (m : Msg) : headM m ++ leB (m.n % 18446744073709551616).toNat 8 ++ leB (m.low % 18446744073709551616).toNat 8 ++ leB (m.mins % 18446744073709551616).toNat 8 ++ leB (m.code % 18446744073709551616).toNat 8 ++ [UInt8.ofNat m.text.size] ++ m.text.data.toList = frontM m := by
  rw [frontM_nums]
  simp [textM, u64N_def]
set_option maxRecDepth 100000 in
set_option maxHeartbeats 2000000 in
theorem refPutM_bad (m : Msg) (w : World) (hr : rightB m = false) :
    Calls Try.prog 48 #[m.val] w fun e w' => e = .returned (.tuple #[.slice none 0 0, .int .i64 1]) ∧ Fr No w w' := by
  have HR := Lib.hid hr
  clear hr
  go_enter Try.func48, Try.ntmps48
  go_wp2_with (go_at_call 86; refine (refRight_any m _).mono ?_; rintro e w1 ⟨rfl, hf1⟩; have F1 := Lib.hid hf1; rw [HR.out]; clear hf1)
  go_ret2
  exact ⟨by rfl, ((Fr.refl No w).alloc _).trans F1.out⟩
set_option maxRecDepth 100000 in
set_option maxHeartbeats 2000000 in
theorem refPutM_ok (m : Msg) (w0 : World) (hr : rightB m = true) :
    Calls Try.prog 48 #[m.val] w0 fun e w' => ∃ A c, e = .returned (.tuple #[.slice A (bytesM m).length c, .int .i64 0]) ∧ Buf w' w0.heap.size (.slice A (bytesM m).length c) (bytesM m) ∧ Fr No w0 w' := by
  have HR := Lib.hid hr
  clear hr
  go_enter Try.func48, Try.ntmps48
  have hm0 : (0 : Int) ≤ (m.text.size : Int) := by omega
  have HML := Lib.hid (right_len HR.out)
  have HFL := Lib.hid (frontM_length m)
  have HFE := Lib.hid (frontM_flat m)
  have HCL := Lib.hid (crc_lt (frontM m))
  obtain ⟨q5, hq5⟩ : ∃ q5, q5 = headM m ++ leB (m.n % 18446744073709551616).toNat 8 ++ leB (m.low % 18446744073709551616).toNat 8 ++ leB (m.mins % 18446744073709551616).toNat 8 ++ leB (m.code % 18446744073709551616).toNat 8 := ⟨_, rfl⟩
  have HQ5 := Lib.hid hq5
  have HQL : Hid (q5.length = 36) := Lib.hid (by rw [hq5]; simp only [List.length_append, leB_length, headM_length])
  rw [← hq5] at HFE
  clear hq5
  go_wp2_with (first
    | (go_at_call 86; refine (refRight_any m _).mono ?_; rintro e w1 ⟨rfl, hf1⟩; have F1 := ((Fr.refl No w0).alloc (Obj.cells m.vals.toArray 30)).trans hf1; have B1 := (Blk.new w0 30 m.vals).fr hf1 (fun h => h); obtain ⟨r0, r1, r2, r3, r4, r5, r6, r7⟩ := B1.cells8; have l1 := B1.lt; rw [HR.out]
       have HO1 := Lib.hid (head_buf' m w1 w0.heap.size F1.size)
       have HF1 := Lib.hid (F1.alloc (Obj.cells #[.int .u8 167, .int .u8 (m.frm % 256), .int .u8 (m.to_ % 256), .int .u8 (m.kind % 256)] 5))
       have HB1 := Lib.hid (B1.alloc (Obj.cells #[.int .u8 167, .int .u8 (m.frm % 256), .int .u8 (m.to_ % 256), .int .u8 (m.kind % 256)] 5))
       clear hf1 B1 F1)
    | (go_at_call 88; refine (refSum_any A7 c7 _ (frontM m) _ (Sl.of_own HO7.out) (by have := HML.out; rw [HFL.out]; simp only [maxLen]; omega)).mono ?_; rintro e w8 ⟨rfl, hw8⟩; obtain rfl := hw8.symm; rw [← HCV.out])
    | (go_at_call 87; refine (refPut_any w0.heap.size _ (frontM m) cv 4 _ HO7.out HF7.out.size (by have := HCVL.out; omega) (by omega) (by have := HML.out; rw [HFL.out]; omega)).mono ?_; rintro e w9 ⟨v9, rfl, ho9, hf9⟩; rw [HCV.out, ← bytesM_eq] at ho9; obtain ⟨A9, c9, rfl, _⟩ := own_shape ho9; have HO9 := Lib.hid ho9; have HF9 := Lib.hid (U8.since HF7.out hf9); clear ho9 hf9)
    | (at_builtin; go_loud (refine wpList_str_append (by rfl) (.tmp 45) (.tmp 47) (by rfl) w0.heap.size v6 (q5 ++ [UInt8.ofNat m.text.size]) (by rfl) HO6.out m.text (by rfl) (by rw [List.length_append, HQL.out]; have := HML.out; simp only [List.length_cons, List.length_nil]; omega) HF6.out.size ?_); intro v7 w7 ho7 hg7
       have F7 := U8.since HF6.out (U8.grown (Fr.refl (U8 w0.heap.size w6) w6) HO6.out hg7)
       rw [HFE.out] at ho7
       obtain ⟨A7, c7, rfl, _⟩ := own_shape ho7
       have HO7 := Lib.hid ho7
       have HF7 := Lib.hid F7
       obtain ⟨cv, hcv⟩ : ∃ cv, cv = crc (frontM m) := ⟨_, rfl⟩
       have HCVL : Hid (cv < 4294967296) := Lib.hid (by rw [hcv]; exact HCL.out)
       have HCV := Lib.hid hcv
       have hcv0 : (0 : Int) ≤ (cv : Int) := by omega
       have hcv1 : (cv : Int) < 4294967296 := by have := HCVL.out; omega
       clear ho7 hg7 F7 hcv)
    | (at_builtin; go_loud (refine wpList_buf_append (by rfl) (.tmp 38) (.tmp 43) (by rfl) w0.heap.size v5 q5 (by rfl) (own_fr0 (HQ5.out ▸ HO_v5.out) ((Fr.refl No w5).alloc (Obj.cells #[.int .u8 ((m.text.size : Int) % 256)] 5))) _ 1 1 _ [UInt8.ofNat m.text.size] (by rfl) (sl_byte w5 m.text.size) (by rw [HQL.out]; omega) (by have := HF_v5.out.size; simp only [World.size_alloc]; omega) ?_); intro v6 w6 ho6 hg6
       have F5 := HF_v5.out.alloc (Obj.cells #[.int .u8 ((m.text.size : Int) % 256)] 5)
       have O5 : Buf (w5.alloc (Obj.cells #[.int .u8 ((m.text.size : Int) % 256)] 5)) w0.heap.size v5 q5 := own_fr0 (HQ5.out ▸ HO_v5.out) ((Fr.refl No w5).alloc _)
       have F6 := U8.grown (Fr.refl (U8 w0.heap.size (w5.alloc (Obj.cells #[.int .u8 ((m.text.size : Int) % 256)] 5))) _) O5 hg6
       have B6 := HB_v5.out.alloc (Obj.cells #[.int .u8 ((m.text.size : Int) % 256)] 5) |>.u8 F6 (by decide)
       obtain ⟨s0, s1, s2, s3, s4, s5, s6, s7⟩ := B6.cells8
       have lG := B6.lt
       have HO6 := Lib.hid ho6
       have HF6 := Lib.hid (U8.since F5 F6)
       clear ho6 hg6 F5 O5 F6 B6)
    | (go_at_call 87; refine (refPutI_any w0.heap.size _ (headM m ++ leB (m.n % 18446744073709551616).toNat 8 ++ leB (m.low % 18446744073709551616).toNat 8 ++ leB (m.mins % 18446744073709551616).toNat 8) (m.code % 18446744073709551616) 8 _ HO_v4.out HF_v4.out.size (by omega) (by omega) (by omega) (by simp only [List.length_append, leB_length, headM_length]; omega)).mono ?_; rintro e w5 ⟨v5, rfl, ho_v5, hf_v5⟩; have HO_v5 := Lib.hid ho_v5; have HF_v5 := Lib.hid (U8.since HF_v4.out hf_v5); have B_v5 := Blk.u8 HB_v4.out hf_v5 (by decide); obtain ⟨s0, s1, s2, s3, s4, s5, s6, s7⟩ := B_v5.cells8; have lG := B_v5.lt; have HB_v5 := Lib.hid B_v5; clear B_v5 ho_v5 hf_v5)
    | (go_at_call 87; refine (refPutI_any w0.heap.size _ (headM m ++ leB (m.n % 18446744073709551616).toNat 8 ++ leB (m.low % 18446744073709551616).toNat 8) (m.mins % 18446744073709551616) 8 _ HO_v3.out HF_v3.out.size (by omega) (by omega) (by omega) (by simp only [List.length_append, leB_length, headM_length]; omega)).mono ?_; rintro e w4 ⟨v4, rfl, ho_v4, hf_v4⟩; have HO_v4 := Lib.hid ho_v4; have HF_v4 := Lib.hid (U8.since HF_v3.out hf_v4); have B_v4 := Blk.u8 HB_v3.out hf_v4 (by decide); obtain ⟨s0, s1, s2, s3, s4, s5, s6, s7⟩ := B_v4.cells8; have lG := B_v4.lt; have HB_v4 := Lib.hid B_v4; clear B_v4 ho_v4 hf_v4)
    | (go_at_call 87; refine (refPutI_any w0.heap.size _ (headM m ++ leB (m.n % 18446744073709551616).toNat 8) (m.low % 18446744073709551616) 8 _ HO_v2.out HF_v2.out.size (by omega) (by omega) (by omega) (by simp only [List.length_append, leB_length, headM_length]; omega)).mono ?_; rintro e w3 ⟨v3, rfl, ho_v3, hf_v3⟩; have HO_v3 := Lib.hid ho_v3; have HF_v3 := Lib.hid (U8.since HF_v2.out hf_v3); have B_v3 := Blk.u8 HB_v2.out hf_v3 (by decide); obtain ⟨s0, s1, s2, s3, s4, s5, s6, s7⟩ := B_v3.cells8; have lG := B_v3.lt; have HB_v3 := Lib.hid B_v3; clear B_v3 ho_v3 hf_v3)
    | (go_at_call 87; refine (refPutI_any w0.heap.size _ (headM m) (m.n % 18446744073709551616) 8 _ HO1.out HF1.out.size (by omega) (by omega) (by omega) (by simp only [List.length_append, leB_length, headM_length]; omega)).mono ?_; rintro e w2 ⟨v2, rfl, ho_v2, hf_v2⟩; have HO_v2 := Lib.hid ho_v2; have HF_v2 := Lib.hid (U8.since HF1.out hf_v2); have B_v2 := Blk.u8 HB1.out hf_v2 (by decide); obtain ⟨s0, s1, s2, s3, s4, s5, s6, s7⟩ := B_v2.cells8; have lG := B_v2.lt; have HB_v2 := Lib.hid B_v2; clear B_v2 ho_v2 hf_v2))
  go_ret2
  exact ⟨A9, c9, by rfl, HO9.out, HF9.out⟩
end Go.Proofs.Ytegogggemmcgdaa
