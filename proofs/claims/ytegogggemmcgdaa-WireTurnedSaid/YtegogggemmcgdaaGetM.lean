/- wire.Get: a message out of bytes. -/
import Derived.Test.YtegogggemmcgdaaPutM
import Derived.Test.YtegogggemmcgdaaGet
namespace Go.Proofs.Ytegogggemmcgdaa
open Go Go.RowKit Go.Proofs

def at8 (l : Bs) (i : Nat) : Int := ((l.getD i 0).toNat : Int)
def i64N (u : Nat) : Int := IntKind.i64.wrap (u : Int)
def num8 (l : Bs) (i : Nat) : Int := i64N (leN ((l.drop (4 + i * 8)).take 8))
def txt8 (l : Bs) : Bs := (l.drop 37).take (l.length - 41)
def parse (l : Bs) : Msg := ⟨at8 l 1, at8 l 2, at8 l 3, num8 l 0, num8 l 1, num8 l 2, num8 l 3, strB (txt8 l)⟩
def fitB (l : Bs) : Bool := at8 l 0 == 167 && (41 + at8 l 36 == (l.length : Int) && leN (l.drop (l.length - 4)) == crc (l.take (l.length - 4)))
def getR (l : Bs) : Msg × Int := if l.length < 41 then (zeroMsg, 10) else if fitB l && rightB (parse l) then (parse l, 0) else (zeroMsg, 11)
theorem at8_cell {w : World} {e : TypeId} {g o n : Nat} {l : Bs} (h : Sl w e 1 (some ⟨g, o, none⟩) n (enc8 l)) (hn : n = l.length) (i : Nat) (hi : i < l.length) : w.cell? ⟨g, o + i, none⟩ = some (.int .u8 (at8 l i)) := by
  subst hn
  obtain ⟨b, o', hA, _, hc, _⟩ := h.cells (by omega)
  have hA := Option.some.inj hA
  injection hA with h1 h2
  subst h1 h2
  have h1 : l[i]? = some l[i] := List.getElem?_eq_getElem hi
  rw [hc i _ (enc8_get h1), at8, List.getD_eq_getElem?_getD, h1]
  rfl
theorem at8_range (l : Bs) (i : Nat) : 0 ≤ at8 l i ∧ at8 l i < 256 := by
  unfold at8
  have := (l.getD i 0).toNat_lt
  omega
/-- a cut of a slice of bytes -/
def cutA (A : Option Addr) (lo c : Nat) : Option Addr := if c = lo then A else A.map (·.add lo)
theorem sl_cut {w : World} {e : TypeId} {A : Option Addr} {l : Bs} (h : Sl w e 1 A l.length (enc8 l)) {lo hi c : Nat} (h1 : lo ≤ hi) (h2 : hi ≤ l.length) (h3 : hi ≤ c) : Sl w e 1 (cutA A lo c) (hi - lo) (enc8 ((l.drop lo).take (hi - lo))) := by
  have := h.cut (l := lo) (k := hi) (c := c) (m := c) h1 h2 h3
  simp only [Nat.mul_one] at this
  have e1 : enc8 ((l.drop lo).take (hi - lo)) = ((enc8 l).drop lo).take (hi - lo) := by simp [enc8, List.map_take, List.map_drop]
  rw [e1]
  exact this
theorem slice_lh {A : Option Addr} {n c : Nat} (kl kh : IntKind) (lo hi : Nat) (h1 : lo ≤ hi) (h2 : hi ≤ n) (h3 : n ≤ c) (w : World) :
    (Instr.slice 50 (.slice A n c) (some (.int kl (lo : Int))) (some (.int kh (hi : Int))) none).run Try.prog w = .ok (.slice (cutA A lo c) (hi - lo) (c - lo)) w := by
  obtain ⟨i, hi', hz, hs, hb⟩ := info_parts u8_info
  rw [run_slice_lh (P := Try.prog) (w := w) 50 A n c (by kernel_rfl) kl kh lo hi (by omega) (by omega) (by omega)]
  have e5 : Try.prog.elem 50 = 5 := by kernel_rfl
  rw [e5]
  simp [sizeOf, typeInfo, hi', hs, sliced, cutA]
theorem slice_l {A : Option Addr} {n c : Nat} (kl : IntKind) (lo : Nat) (h1 : lo ≤ n) (w : World) :
    (Instr.slice 50 (.slice A n c) (some (.int kl (lo : Int))) none none).run Try.prog w = .ok (.slice (cutA A lo c) (n - lo) (c - lo)) w := by
  obtain ⟨i, hi', hz, hs, hb⟩ := info_parts u8_info
  rw [run_slice_l (P := Try.prog) (w := w) 50 A n c (by kernel_rfl) kl lo (by omega) (by omega)]
  have e5 : Try.prog.elem 50 = 5 := by kernel_rfl
  rw [e5]
  simp [sizeOf, typeInfo, hi', hs, sliced, cutA]
theorem slice_h {A : Option Addr} {n c : Nat} (kh : IntKind) (hi : Nat) (h2 : hi ≤ c) (w : World) :
    (Instr.slice 50 (.slice A n c) none (some (.int kh (hi : Int))) none).run Try.prog w = .ok (.slice (cutA A 0 c) (hi - 0) (c - 0)) w := by
  obtain ⟨i, hi', hz, hs, hb⟩ := info_parts u8_info
  rw [run_slice_h (P := Try.prog) (w := w) 50 A n c (by kernel_rfl) kh hi (by omega) (by omega)]
  have e5 : Try.prog.elem 50 = 5 := by kernel_rfl
  rw [e5]
  simp [sizeOf, typeInfo, hi', hs, sliced, cutA]
theorem get_res {tmps : Array Value} {w : World} {g : Nat} {x : Msg} {e : Int} (h : Blk w g 28 x.vals) (h4 : tmps.getD 2 undef = .pointer (some ⟨g, 0, none⟩)) (h5 : tmps.getD 3 undef = .int .i64 e) :
    (results Try.f49 tmps).run Try.prog w = .ok (msgErr x e) w := by
  obtain ⟨r0, r1, r2, r3, r4, r5, r6, r7⟩ := h.cells8
  simp only [Array.getD_eq_getD_getElem?] at h4 h5
  simp [results, Try.results49, go_sem, h4, h5, r0, r1, r2, r3, r4, r5, r6, r7]
theorem fitB_def (l : Bs) : fitB l = (at8 l 0 == 167 && (41 + at8 l 36 == (l.length : Int) && leN (l.drop (l.length - 4)) == crc (l.take (l.length - 4)))) := rfl
theorem num8_def (l : Bs) (i : Nat) : num8 l i = IntKind.i64.wrap ((leN ((l.drop (4 + i * 8)).take 8) : Nat) : Int) := rfl
theorem txt8_def (l : Bs) : txt8 l = (l.drop 37).take (l.length - 41) := rfl
theorem parse_def (l : Bs) : parse l = ⟨at8 l 1, at8 l 2, at8 l 3, num8 l 0, num8 l 1, num8 l 2, num8 l 3, strB (txt8 l)⟩ := rfl
theorem cutA_def (A : Option Addr) (lo c : Nat) : cutA A lo c = if c = lo then A else A.map (·.add lo) := rfl
theorem at8_def (l : Bs) (i : Nat) : at8 l i = ((l.getD i 0).toNat : Int) := rfl
attribute [irreducible] at8 i64N num8 txt8 fitB getR cutA parse
set_option maxRecDepth 100000 in
set_option maxHeartbeats 1000000 in
theorem getM_short (A : Option Addr) (c n : Nat) (w : World) (hn : n < 41) :
    Calls Try.prog 49 #[.slice A n c] w fun e w' => e = .returned (msgErr zeroMsg 10) ∧ Fr No w w' := by
  have hn1 : (n : Int) < 41 := by omega
  have HB := Lib.hid (Blk.new w 28 zeroMsg.vals)
  obtain ⟨r0, r1, r2, r3, r4, r5, r6, r7⟩ := HB.out.cells8
  have hfz := HB.out.frozens
  have lG := HB.out.lt
  go_enter Try.func49, Try.ntmps49
  go_wp2
  exact bodyPost_ret (v := msgErr zeroMsg 10) (get_res (x := zeroMsg) HB.out rfl rfl) rfl ⟨rfl, (Fr.refl _ _).alloc _⟩
theorem u64_in (n : Nat) (h : n < 18446744073709551616) : IntKind.u64.wrap (n : Int) = (n : Int) := by
  simp [IntKind.wrap, IntKind.signed, IntKind.bits]
  omega
/-- what lies in the slice -/
structure GetIn (w : World) (g o c : Nat) (e : TypeId) (l : Bs) : Prop where
  sl : Sl w e 1 (some ⟨g, o, none⟩) l.length (enc8 l)
  long : 41 ≤ l.length
  cap : l.length ≤ c
  most : l.length ≤ maxLen
theorem tail_cut {w : World} {g o c : Nat} {e : TypeId} {l : Bs} (h : GetIn w g o c e l) : ∃ (k : Nat) (T F : Bs) (At Af : Option Addr) (ct cf : Nat), (l.length : Int) - 4 = (k : Int) ∧ T.length = 4 ∧
    (∀ w, (Instr.slice 50 (.slice (some ⟨g, o, none⟩) l.length c) (some (.int .i64 (k : Int))) none none).run Try.prog w = .ok (.slice At T.length ct) w) ∧
    (∀ w, (Instr.slice 50 (.slice (some ⟨g, o, none⟩) l.length c) none (some (.int .i64 (k : Int))) none).run Try.prog w = .ok (.slice Af F.length cf) w) ∧
    Hid (Sl w e 1 At T.length (enc8 T)) ∧ Hid (Sl w e 1 Af F.length (enc8 F)) ∧ Hid (F.length ≤ maxLen) ∧ Hid (T = l.drop (l.length - 4) ∧ F = l.take (l.length - 4)) := by
  have h1 := h.long
  have h2 := h.cap
  have h3 := h.most
  refine ⟨l.length - 4, l.drop (l.length - 4), l.take (l.length - 4), cutA (some ⟨g, o, none⟩) (l.length - 4) c, cutA (some ⟨g, o, none⟩) 0 c, c - (l.length - 4), c - 0, by omega, by rw [List.length_drop]; omega, fun w => ?_, fun w => ?_, Lib.hid ?_, Lib.hid ?_, Lib.hid ?_, Lib.hid ⟨rfl, rfl⟩⟩
  · rw [slice_l .i64 (l.length - 4) (by omega) w, List.length_drop]
  · rw [slice_h .i64 (l.length - 4) (by omega) w, List.length_take, Nat.min_eq_left (by omega), Nat.sub_zero]
  · have := sl_cut h.sl (lo := l.length - 4) (hi := l.length) (c := c) (by omega) (Nat.le_refl _) h2
    rw [List.take_of_length_le (by rw [List.length_drop]; omega)] at this
    rw [List.length_drop]
    exact this
  · have := sl_cut h.sl (lo := 0) (hi := l.length - 4) (c := c) (by omega) (by omega) (by omega)
    rw [List.drop_zero, Nat.sub_zero] at this
    rw [List.length_take, Nat.min_eq_left (by omega)]
    exact this
  · rw [List.length_take, Nat.min_eq_left (by omega)]
    omega
set_option maxRecDepth 100000 in
set_option maxHeartbeats 1000000 in
theorem getM_unfit (g o c : Nat) (e : TypeId) (l : Bs) (w : World) (h : GetIn w g o c e l) (hf : fitB l = false) :
    Calls Try.prog 49 #[.slice (some ⟨g, o, none⟩) l.length c] w fun e w' => e = .returned (msgErr zeroMsg 11) ∧ Fr No w w' := by
  have H := Lib.hid h
  have hl0 : (41 : Int) ≤ (l.length : Int) := by have := h.long; omega
  have hl2 : (l.length : Int) ≤ 9223372036854775807 := by have := h.most; simp only [maxLen] at this; omega
  have hlc : (l.length : Int) ≤ (c : Int) := by have := h.cap; omega
  have hl3 : (0 : Int) < (l.length : Int) := by omega
  have hl36 : (36 : Int) < (l.length : Int) := by omega
  have hl5 : 0 < l.length := by omega
  have hl6 : l ≠ [] := by intro e; subst e; simp at hl5
  obtain ⟨k, T, F, At, Af, ct, cf, hk, hT4, hst, hsf, HT, HF, HFM, HTF⟩ := tail_cut h
  have HT4 := Lib.hid hT4
  clear hT4
  have n0 := at8_cell h.sl rfl 0 (by have := h.long; omega)
  have n36 := at8_cell h.sl rfl 36 (by have := h.long; omega)
  rw [Nat.add_zero] at n0
  obtain ⟨q0, q1⟩ := at8_range l 0
  obtain ⟨p0, p1⟩ := at8_range l 36
  have HFIT := Lib.hid (fitB_def l)
  rw [← HTF.out.1, ← HTF.out.2] at HFIT
  generalize at8 l 0 = x0 at n0 q0 q1 HFIT
  generalize at8 l 36 = x36 at n36 p0 p1 HFIT
  have hg1 : g < w.heap.size := by
    obtain ⟨b, o', hA, hb, _⟩ := h.sl.cells (by have := h.long; omega)
    have hA := Option.some.inj hA
    injection hA with h1 h2
    subst h1
    exact hb
  clear h
  have hw1 : IntKind.i64.wrap x36 = x36 := IntWalk.i64_in _ (by omega)
  have hw2 : IntKind.i64.wrap (41 + x36) = 41 + x36 := IntWalk.i64_in _ (by omega)
  have HB := Lib.hid (Blk.new w 28 zeroMsg.vals)
  obtain ⟨r0, r1, r2, r3, r4, r5, r6, r7⟩ := HB.out.cells8
  have hfz := HB.out.frozens
  have lG := HB.out.lt
  rw [hf] at HFIT
  clear hf
  by_cases hx0 : x0 = 167
  · subst hx0
    by_cases hx36 : 41 + x36 = (l.length : Int)
    · have hxb : (41 + x36 != (l.length : Int)) = false := by simp [hx36]
      have hne : leN T ≠ crc F := by
        intro he
        have := HFIT.out
        rw [he] at this
        simp [hx36] at this
      clear hx36 HFIT
      obtain ⟨gt, hgt⟩ : ∃ gt, gt = leN T := ⟨_, rfl⟩
      obtain ⟨cv, hcv⟩ : ∃ cv, cv = crc F := ⟨_, rfl⟩
      have hcl := crc_lt F
      rw [← hcv] at hcl hne
      rw [← hgt] at hne
      have hnb : ((gt : Int) != (cv : Int)) = true := bne_iff_ne.2 (by omega)
      have HGT := Lib.hid hgt
      have HCV := Lib.hid hcv
      have hcv0 : (0 : Int) ≤ (cv : Int) := by omega
      have hwc := u64_in cv (by omega)
      clear hgt hcv hne
      go_enter Try.func49, Try.ntmps49
      go_wp2
      refine wp_region_o [(0, 0), (1, 0), (2, 1), (3, 0), (4, 0), (5, 0), (6, 0), (7, 1), (8, 0), (9, 0), (10, 0), (11, 1), (12, 0), (13, 0), (14, 0), (15, 0), (16, 0), (17, 0), (19, 0), (20, 0), (21, 0), (18, 2), (22, 2), (23, 0), (24, 0), (25, 0)] (by kernel_rfl) (by kernel_rfl) ?_
      repeat (first
        | (apply wpO_pure rfl rfl; (focus (intro w'; go_simp; (try rfl); done)); try simp only [Act.put, List.setIfInBounds_toArray, List.set_cons_zero, List.set_cons_succ])
        | (apply wpO_read rfl rfl; (focus (intro w' hf' hs'; (try simp only [World.size_drew, World.cell?_drew, World.size_alloc, World.size_setCell] at hs'); go_simp; (try rfl); done)); try simp only [Act.put, List.setIfInBounds_toArray, List.set_cons_zero, List.set_cons_succ])
        | (apply wpO_skip (by decide) rfl rfl; try simp only [Act.put, List.setIfInBounds_toArray, List.set_cons_zero, List.set_cons_succ]))
      have F0 := ((Fr.refl No w).alloc (Obj.cells #[.int .i64 0, .int .i64 0, .int .i64 0, .int .i64 0, .int .i64 0, .int .i64 0, .int .i64 0, .string ⟨#[]⟩] 28)).drew
      refine wpO_loudE rfl fun K hK => ?_
      go_simp
      refine (get_any At ct e T _ (HT.out.fr0 F0) (by have := HT4.out; omega)).mono ?_
      rintro e w1 ⟨rfl, hw1'⟩
      refine hK _ _ ⟨hw1'.symm ▸ Fr.refl _ _, ?_⟩
      clear hK K
      obtain rfl := hw1'.symm
      rw [← HGT.out]
      repeat (first
        | (apply wpO_pure rfl rfl; (focus (intro w'; go_simp; (try rfl); done)); try simp only [Act.put, List.setIfInBounds_toArray, List.set_cons_zero, List.set_cons_succ])
        | (apply wpO_read rfl rfl; (focus (intro w' hf' hs'; (try simp only [World.size_drew, World.cell?_drew, World.size_alloc, World.size_setCell] at hs'); go_simp; (try rfl); done)); try simp only [Act.put, List.setIfInBounds_toArray, List.set_cons_zero, List.set_cons_succ])
        | (apply wpO_skip (by decide) rfl rfl; try simp only [Act.put, List.setIfInBounds_toArray, List.set_cons_zero, List.set_cons_succ]))
      refine wpO_loudE rfl fun K hK => ?_
      go_simp
      refine (sum_any Af cf e F _ (HF.out.fr0 F0) HFM.out).mono ?_
      rintro e w2 ⟨rfl, hf2⟩
      refine hK _ _ ⟨hf2, ?_⟩
      clear hK K
      rw [← HCV.out]
      have HF2 := Lib.hid (F0.trans hf2)
      have B2 := (HB.out.drew).fr hf2 (fun h => h)
      obtain ⟨s0, s1, s2, s3, s4, s5, s6, s7⟩ := B2.cells8
      have sfz := B2.frozens
      have sG := B2.lt
      have HB2 := Lib.hid B2
      clear hf2 B2 F0
      repeat (first
        | (apply wpO_pure rfl rfl; (focus (intro w'; go_simp; (try rfl); done)); try simp only [Act.put, List.setIfInBounds_toArray, List.set_cons_zero, List.set_cons_succ])
        | (apply wpO_read rfl rfl; (focus (intro w' hf' hs'; (try simp only [World.size_drew, World.cell?_drew, World.size_alloc, World.size_setCell] at hs'); go_simp; (try rfl); done)); try simp only [Act.put, List.setIfInBounds_toArray, List.set_cons_zero, List.set_cons_succ])
        | (apply wpO_skip (by decide) rfl rfl; try simp only [Act.put, List.setIfInBounds_toArray, List.set_cons_zero, List.set_cons_succ]))
      refine wpO_nil ?_
      go_wp2
      exact bodyPost_ret (v := msgErr zeroMsg 11) (get_res (x := zeroMsg) (HB2.out.set8 zeroMsg) rfl rfl) rfl ⟨rfl, HF2.out.set8 (.inr (Nat.le_refl _)) zeroMsg⟩
    · have hxb : (41 + x36 != (l.length : Int)) = true := bne_iff_ne.2 hx36
      clear hx36 hst hsf HFIT
      go_enter Try.func49, Try.ntmps49
      go_wp2
      refine wp_region_o [(0, 0), (1, 0), (2, 1), (3, 0), (4, 0), (5, 0), (6, 0), (7, 1), (8, 0), (9, 0), (10, 0), (11, 1), (12, 0), (13, 0), (14, 0), (15, 0), (16, 0), (17, 0), (19, 0), (20, 0), (21, 0), (18, 1), (22, 1), (23, 0), (24, 0), (25, 0)] (by kernel_rfl) (by kernel_rfl) ?_
      repeat (first
        | (apply wpO_pure rfl rfl; (focus (intro w'; go_simp; (try rfl); done)); try simp only [Act.put, List.setIfInBounds_toArray, List.set_cons_zero, List.set_cons_succ])
        | (apply wpO_read rfl rfl; (focus (intro w' hf' hs'; (try simp only [World.size_drew, World.cell?_drew, World.size_alloc, World.size_setCell] at hs'); go_simp; (try rfl); done)); try simp only [Act.put, List.setIfInBounds_toArray, List.set_cons_zero, List.set_cons_succ])
        | (apply wpO_skip (by decide) rfl rfl; try simp only [Act.put, List.setIfInBounds_toArray, List.set_cons_zero, List.set_cons_succ]))
      refine wpO_nil ?_
      go_wp2
      exact bodyPost_ret (v := msgErr zeroMsg 11) (get_res (x := zeroMsg) HB.out.drew rfl rfl) rfl ⟨rfl, ((Fr.refl _ _).alloc _).drew⟩
  · have hxb : (x0 != 167) = true := bne_iff_ne.2 hx0
    clear hx0 hst hsf HFIT
    go_enter Try.func49, Try.ntmps49
    go_wp2
    refine wp_region_o [(0, 0), (1, 0), (2, 1), (3, 0), (4, 0), (5, 0), (6, 0), (7, 1), (8, 0), (9, 0), (10, 0), (11, 1), (12, 0), (13, 0), (14, 0), (15, 0), (16, 0), (17, 0), (19, 0), (20, 0), (21, 0), (18, 1), (22, 1), (23, 0), (24, 0), (25, 0)] (by kernel_rfl) (by kernel_rfl) ?_
    repeat (first
      | (apply wpO_pure rfl rfl; (focus (intro w'; go_simp; (try rfl); done)); try simp only [Act.put, List.setIfInBounds_toArray, List.set_cons_zero, List.set_cons_succ])
      | (apply wpO_read rfl rfl; (focus (intro w' hf' hs'; (try simp only [World.size_drew, World.cell?_drew, World.size_alloc, World.size_setCell] at hs'); go_simp; (try rfl); done)); try simp only [Act.put, List.setIfInBounds_toArray, List.set_cons_zero, List.set_cons_succ])
      | (apply wpO_skip (by decide) rfl rfl; try simp only [Act.put, List.setIfInBounds_toArray, List.set_cons_zero, List.set_cons_succ]))
    refine wpO_nil ?_
    go_wp2
    exact bodyPost_ret (v := msgErr zeroMsg 11) (get_res (x := zeroMsg) HB.out.drew rfl rfl) rfl ⟨rfl, ((Fr.refl _ _).alloc _).drew⟩
def nt (l : Bs) (i : Nat) : List Value := (List.range 4).map fun k => .int .i64 (if k < i then num8 l k else 0)
theorem nt_get {l : Bs} {i k : Nat} (hk : k < 4) : (nt l i)[k]? = some (.int .i64 (if k < i then num8 l k else 0)) := by
  rw [nt, List.getElem?_map, List.getElem?_range hk]
  rfl
theorem nt_set (l : Bs) (i : Nat) (hi : i < 4) : nt l (i + 1) = (nt l i).set i (.int .i64 (num8 l i)) := by
  apply List.ext_getElem?
  intro k
  by_cases hk : k < 4
  · rw [nt_get hk, List.getElem?_set]
    by_cases e : i = k
    · subst e
      have hl : i < (nt l i).length := by simp [nt, hk]
      simp [hl]
    · rw [if_neg e, nt_get hk]
      by_cases h : k < i
      · rw [if_pos (by omega), if_pos h]
      · rw [if_neg (by omega), if_neg h]
  · rw [List.getElem?_eq_none (by simp [nt]; omega), List.getElem?_eq_none (by simp [nt]; omega)]
def GLRel (w0 : World) (l : Bs) (G0 G5 : Nat) (g : Nat) (v42 : Value) (wr : World) : Prop :=
  ∃ i : Nat, i + g = 4 ∧ v42 = .int .i64 i ∧ Blk wr G5 146 (nt l i) ∧ Blk wr G0 28 zeroMsg.vals ∧ Fr No w0 wr
/-- one number's bytes -/
theorem num_cut {w : World} {g o c : Nat} {e : TypeId} {l : Bs} (h : GetIn w g o c e l) (i : Nat) (hi : i < 4) : ∃ (P : Bs) (Ap : Option Addr) (cp : Nat), P.length ≤ 8 ∧ P.length = 8 ∧ num8 l i = IntKind.i64.wrap ((leN P : Nat) : Int) ∧
    (∀ w, (Instr.slice 50 (.slice (some ⟨g, o, none⟩) l.length c) (some (.int .i64 (4 + (i : Int) * 8))) (some (.int .i64 (4 + ((i : Int) + 1) * 8))) none).run Try.prog w = .ok (.slice Ap P.length cp) w) ∧ Sl w e 1 Ap P.length (enc8 P) := by
  have h1 := h.long
  have h2 := h.cap
  have hl : ((l.drop (4 + i * 8)).take 8).length = 8 := by rw [List.length_take, List.length_drop]; omega
  refine ⟨(l.drop (4 + i * 8)).take 8, cutA (some ⟨g, o, none⟩) (4 + i * 8) c, c - (4 + i * 8), by omega, hl, num8_def l i, fun w => ?_, ?_⟩
  · have := slice_lh (A := some ⟨g, o, none⟩) (n := l.length) (c := c) .i64 .i64 (4 + i * 8) (4 + (i + 1) * 8) (by omega) (by omega) h2 w
    rw [hl]
    rw [show (((4 + i * 8 : Nat)) : Int) = 4 + (i : Int) * 8 by omega, show (((4 + (i + 1) * 8 : Nat)) : Int) = 4 + ((i : Int) + 1) * 8 by omega, show 4 + (i + 1) * 8 - (4 + i * 8) = 8 by omega] at this
    exact this
  · have := sl_cut h.sl (lo := 4 + i * 8) (hi := 4 + (i + 1) * 8) (c := c) (by omega) (by omega) (by omega)
    rw [show 4 + (i + 1) * 8 - (4 + i * 8) = 8 by omega] at this
    rw [hl]
    exact this
theorem GetIn.fr0 {w w' : World} {g o c : Nat} {e : TypeId} {l : Bs} (h : GetIn w g o c e l) (hf : Fr No w w') : GetIn w' g o c e l := ⟨h.sl.fr0 hf, h.long, h.cap, h.most⟩
theorem text_cut {w : World} {g o c : Nat} {e : TypeId} {l : Bs} (h : GetIn w g o c e l) (k : Nat) (hk : (l.length : Int) - 4 = (k : Int)) : ∃ (X : Bs) (Ax : Option Addr) (cx : Nat), X = txt8 l ∧
    (∀ w, (Instr.slice 50 (.slice (some ⟨g, o, none⟩) l.length c) (some (.int .i64 37)) (some (.int .i64 (k : Int))) none).run Try.prog w = .ok (.slice Ax X.length cx) w) ∧ Sl w e 1 Ax X.length (enc8 X) := by
  have h1 := h.long
  have h2 := h.cap
  have hl : (txt8 l).length = l.length - 41 := by rw [txt8_def, List.length_take, List.length_drop]; omega
  refine ⟨txt8 l, cutA (some ⟨g, o, none⟩) 37 c, c - 37, rfl, fun w => ?_, ?_⟩
  · have := slice_lh (A := some ⟨g, o, none⟩) (n := l.length) (c := c) .i64 .i64 37 k (by omega) (by omega) h2 w
    rw [hl]
    rw [show k - 37 = l.length - 41 by omega] at this
    exact this
  · have := sl_cut h.sl (lo := 37) (hi := k) (c := c) (by omega) (by omega) (by omega)
    rw [show k - 37 = l.length - 41 by omega, ← txt8_def] at this
    rw [hl]
    exact this
end Go.Proofs.Ytegogggemmcgdaa
