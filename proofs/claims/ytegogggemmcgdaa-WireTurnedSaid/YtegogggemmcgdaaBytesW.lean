/- WireBytes: the walk. -/
import Derived.Test.YtegogggemmcgdaaRGet
import Derived.Test.YtegogggemmcgdaaLent
import Derived.Test.YtegogggemmcgdaaBytesP
import Derived.Test.YtegogggemmcgdaaPlayC
namespace Go.Proofs.Ytegogggemmcgdaa
open Go Go.RowKit Go.Proofs

def gotM (l : Bs) : Msg × Int := if l.length < 41 then (zeroMsg, 10) else if fitB l && rightB (parse l) then (parse l, 0) else (zeroMsg, 11)
theorem some_of {w : World} {A : Option Addr} {e : TypeId} {l : Bs} (h : Sl w e 1 A l.length (enc8 l)) (hn : 0 < l.length) : ∃ g o, A = some ⟨g, o, none⟩ := by
  obtain ⟨b, o, hA, _⟩ := h.cells hn
  exact ⟨b, o, hA⟩
theorem getM_any (A : Option Addr) (c : Nat) (e : TypeId) (l : Bs) (w : World) (h : Sl w e 1 A l.length (enc8 l)) (hc : l.length ≤ c) (hm : l.length ≤ maxLen) :
    Calls Try.prog 49 #[.slice A l.length c] w fun e w' => e = .returned (msgErr (gotM l).1 (gotM l).2) ∧ Fr No w w' := by
  unfold gotM
  by_cases h1 : l.length < 41
  · rw [if_pos h1]
    exact getM_short A c l.length w h1
  · rw [if_neg h1]
    obtain ⟨g, o, rfl⟩ := some_of h (by omega)
    have hin : GetIn w g o c e l := ⟨h, by omega, hc, hm⟩
    cases hf : fitB l
    · exact getM_unfit g o c e l w hin hf
    · refine (getM_fit g o c e l _ w hin hf rfl).mono fun e w' ⟨h1, h2⟩ => ⟨?_, h2⟩
      rw [h1]
      cases rightB (parse l) <;> rfl
theorem refGetM_any (A : Option Addr) (c : Nat) (e : TypeId) (l : Bs) (w : World) (h : Sl w e 1 A l.length (enc8 l)) (hc : l.length ≤ c) (hm : l.length ≤ maxLen) :
    Calls Try.prog 50 #[.slice A l.length c] w fun e w' => e = .returned (msgErr (gotM l).1 (gotM l).2) ∧ Fr No w w' := by
  unfold gotM
  by_cases h1 : l.length < 41
  · rw [if_pos h1]
    exact refGetM_short A c l.length w h1
  · rw [if_neg h1]
    obtain ⟨g, o, rfl⟩ := some_of h (by omega)
    have hin : GetIn w g o c e l := ⟨h, by omega, hc, hm⟩
    by_cases hx : 41 + at8 l 36 = (l.length : Int)
    · refine (refGetM_main g o c e l w hin hx _ _ rfl (bytes_parse l (by omega) hx)).mono fun e w' ⟨h1, h2⟩ => ⟨?_, h2⟩
      rw [h1, Bool.and_comm]
      cases fitB l && rightB (parse l) <;> rfl
    · have hf : fitB l = false := by
        rw [fitB_def]
        have : (41 + at8 l 36 == (l.length : Int)) = false := beq_eq_false_iff_ne.2 hx
        rw [this]
        simp
      rw [hf]
      exact refGetM_len g o c e l w hin hx
def putL (m : Msg) : Bs := if rightB m then bytesM m else []
def putE (m : Msg) : Int := if rightB m then 0 else 1
theorem own_cap {w : World} {base n c : Nat} {A : Option Addr} {xs : List Value} (h : w.ownsRow base 5 1 (.slice A n c) n xs) : n ≤ c := by
  rcases h.2 with ⟨h0, h1⟩ | ⟨g', cap, cur, hv, _, _, hc, _⟩
  · injection h0 with _ h2 h3
    omega
  · injection hv with _ _ h3
    omega
/-- what a Put leaves -/
def PutPost (m : Msg) (w : World) (e : Ending) (w' : World) : Prop := ∃ A c, e = .returned (.tuple #[.slice A (putL m).length c, .int .i64 (putE m)]) ∧ w'.ownsRow w.heap.size 5 1 (.slice A (putL m).length c) (putL m).length (enc8 (putL m)) ∧ Fr No w w'
theorem putM_any (m : Msg) (w : World) : Calls Try.prog 47 #[m.val] w (PutPost m w) := by
  unfold PutPost putL putE
  cases hr : rightB m
  · exact (putM_bad m w hr).mono fun e w' ⟨h1, h2⟩ => ⟨none, 0, h1, World.ownsRow_nil w' _ _ _, h2⟩
  · exact putM_ok m w hr
theorem refPutM_any (m : Msg) (w : World) : Calls Try.prog 48 #[m.val] w (PutPost m w) := by
  unfold PutPost putL putE
  cases hr : rightB m
  · exact (refPutM_bad m w hr).mono fun e w' ⟨h1, h2⟩ => ⟨none, 0, h1, World.ownsRow_nil w' _ _ _, h2⟩
  · exact refPutM_ok m w hr
theorem putE_zero {m : Msg} (h : 0 = putE m) : rightB m = true := by
  unfold putE at h
  cases hr : rightB m
  · rw [hr] at h; cases h
  · rfl
theorem putL_right {m : Msg} (h : rightB m = true) : putL m = bytesM m := by unfold putL; rw [if_pos h]
theorem got_put {m : Msg} (h : rightB m = true) (h0 : -9223372036854775808 ≤ m.code) (h1 : m.code ≤ 9223372036854775807) : gotM (bytesM m) = (m, 0) := by
  obtain ⟨h2, h3⟩ := put_parse m h h0 h1
  have := bytesM_length m
  unfold gotM
  rw [if_neg (by omega), h2, h3, h]
  rfl
attribute [irreducible] putL putE gotM
set_option maxRecDepth 100000 in
set_option maxHeartbeats 4000000 in
theorem wireBytes_walk (m : Msg) (A : Option Addr) (c : Nat) (e : TypeId) (l : Bs) (w : World) (hc0 : -9223372036854775808 ≤ m.code) (hc1 : m.code ≤ 9223372036854775807) (h : Sl w e 1 A l.length (enc8 l)) (hc : l.length ≤ c) (hm : l.length ≤ 140737488355328) :
    Calls Try.prog 11 #[m.val, .slice A l.length c] w fun e w' => e = .returned (.bool true) ∧ Fr No w w' := by
  have H := Lib.hid h
  have HC := Lib.hid hc
  have HM := Lib.hid hm
  have HC0 := Lib.hid hc0
  have HC1 := Lib.hid hc1
  have hl0 : (0 : Int) ≤ (l.length : Int) := by omega
  clear h hc hm hc0 hc1
  have HB := Lib.hid (Blk.new w 30 m.vals)
  have HF := Lib.hid ((Fr.refl No w).alloc (Obj.cells m.vals.toArray 30))
  obtain ⟨pl, hpl⟩ : ∃ pl, pl = putL m := ⟨_, rfl⟩
  obtain ⟨pe, hpe⟩ : ∃ pe, pe = putE m := ⟨_, rfl⟩
  have HP : Hid (∀ w, Calls Try.prog 47 #[m.val] w fun e w' => ∃ A c, e = .returned (.tuple #[.slice A pl.length c, .int .i64 pe]) ∧ w'.ownsRow w.heap.size 5 1 (.slice A pl.length c) pl.length (enc8 pl) ∧ Fr No w w') := Lib.hid (by rw [hpl, hpe]; exact putM_any m)
  have HQ : Hid (∀ w, Calls Try.prog 48 #[m.val] w fun e w' => ∃ A c, e = .returned (.tuple #[.slice A pl.length c, .int .i64 pe]) ∧ w'.ownsRow w.heap.size 5 1 (.slice A pl.length c) pl.length (enc8 pl) ∧ Fr No w w') := Lib.hid (by rw [hpl, hpe]; exact refPutM_any m)
  have HPL := Lib.hid hpl
  have HPE := Lib.hid hpe
  clear hpl hpe
  obtain ⟨gm, hgm⟩ : ∃ gm, gm = (gotM l).1 := ⟨_, rfl⟩
  obtain ⟨ge, hge⟩ : ∃ ge, ge = (gotM l).2 := ⟨_, rfl⟩
  have HG : Hid (∀ A c e w, Sl w e 1 A l.length (enc8 l) → l.length ≤ c → Calls Try.prog 49 #[.slice A l.length c] w fun e w' => e = .returned (msgErr gm ge) ∧ Fr No w w') := Lib.hid (fun A c e w h1 h2 => by rw [hgm, hge]; exact getM_any A c e l w h1 h2 (by have := HM.out; simp only [maxLen]; omega))
  have HK : Hid (∀ A c e w, Sl w e 1 A l.length (enc8 l) → l.length ≤ c → Calls Try.prog 50 #[.slice A l.length c] w fun e w' => e = .returned (msgErr gm ge) ∧ Fr No w w') := Lib.hid (fun A c e w h1 h2 => by rw [hgm, hge]; exact refGetM_any A c e l w h1 h2 (by have := HM.out; simp only [maxLen]; omega))
  clear hgm hge
  obtain ⟨r0, r1, r2, r3, r4, r5, r6, r7⟩ := HB.out.cells8
  have lB := HB.out.lt
  go_enter Try.func11, Try.ntmps11
  go_wp2_with (first
    | (go_at_call 14; refine (given_any m _).mono ?_; rintro e w1 ⟨rfl, hf1⟩; have HF1 := Lib.hid (HF.out.trans hf1); have HB1 := Lib.hid (HB.out.fr hf1 (fun h => h)); clear hf1 r0 r1 r2 r3 r4 r5 r6 r7 lB)
    | (go_at_call 47; refine (HP.out _).mono ?_; rintro e w2 ⟨A2, c2, rfl, ho2, hf2⟩; have HF2 := Lib.hid (HF1.out.trans hf2); have B2 := HB1.out.fr hf2 (fun h => h); have HB2 := Lib.hid B2; obtain ⟨r0, r1, r2, r3, r4, r5, r6, r7⟩ := B2.cells8; have lB := B2.lt; have HS2 := Lib.hid (Sl.of_own ho2); have HC2 := Lib.hid (own_cap ho2); clear hf2 ho2 B2)
    | (go_at_call 48; refine (HQ.out _).mono ?_; rintro e w3 ⟨A3, c3, rfl, ho3, hf3⟩; have HF3 := Lib.hid (HF2.out.trans hf3); have HB3 := Lib.hid (HB2.out.fr hf3 (fun h => h)); have HS3 := Lib.hid (Sl.of_own ho3); have HS23 := Lib.hid (HS2.out.fr0 hf3); clear hf3 ho3 r0 r1 r2 r3 r4 r5 r6 r7 lB)
    | (go_at_call 36; refine (lent_any A c e l _ (H.out.fr0 HF3.out) HM.out).mono ?_; rintro e w4 ⟨g4, c4, rfl, hL4, hb4, hf4⟩; have HL4 := Lib.hid hL4; have HB4 := Lib.hid hb4; have HF4 := Lib.hid hf4; clear hL4 hb4 hf4)
    | (go_at_call 49; refine (HG.out _ c4 _ _ HL4.out.sl (by have := HL4.out.cap; omega)).mono ?_; rintro e w5 ⟨rfl, hf5⟩; have HF5 := Lib.hid (HF4.out.trans hf5); have HL5 := Lib.hid (HL4.out.fr0 hf5); clear hf5)
    | (go_at_call 50; refine (HK.out A c e _ (((H.out.fr0 HF3.out).fr0 HF5.out).alloc (Obj.cells gm.vals.toArray 28)) HC.out).mono ?_; rintro e w6 ⟨rfl, hf6⟩; have F6 := ((Fr.refl No w5).alloc (Obj.cells gm.vals.toArray 28)).trans hf6; have HF6 := Lib.hid (HF5.out.trans F6); have HL6 := Lib.hid (HL5.out.fr0 F6); have HB6 := Lib.hid ((Blk.new w5 28 gm.vals).fr hf6 (fun h => h)); clear hf6 F6))
  have F7 := HF6.out.alloc (Obj.cells gm.vals.toArray 30)
  have B67 := HB6.out.alloc (Obj.cells gm.vals.toArray 30)
  have B77 := Blk.new w6 30 gm.vals
  have HL7 := Lib.hid (HL6.out.fr0 ((Fr.refl No w6).alloc (Obj.cells gm.vals.toArray 30)))
  obtain ⟨s0, s1, s2, s3, s4, s5, s6, s7⟩ := B67.cells8
  have s8 := B67.lt
  obtain ⟨t0, t1, t2, t3, t4, t5, t6, t7⟩ := B77.cells8
  have t8 := B77.lt
  have HF7 := Lib.hid F7
  obtain ⟨w7, hw7⟩ : ∃ w7, w7 = w6.alloc (Obj.cells gm.vals.toArray 30) := ⟨_, rfl⟩
  rw [← hw7] at s0 s1 s2 s3 s4 s5 s6 s7 s8 t0 t1 t2 t3 t4 t5 t6 t7 t8 HF7 HL7
  rw [show w6.alloc (Obj.cells #[.int .i64 gm.frm, .int .i64 gm.to_, .int .i64 gm.kind, .int .i64 gm.n, .int .i64 gm.low, .int .i64 gm.mins, .int .i64 gm.code, .string gm.text] 30) = w7 from hw7.symm]
  clear F7 B67 B77 hw7 HB6
  have hq := msg_neq gm
  have hgu : ∀ (w : World) (x y : Operand) (u v : Msg), (eqGuard .neq 30 x y u.val v.val).run Try.prog w = .ok () w := fun w x y u v => run_eqGuard_agg w .neq _ x y _ _ refMsg_guard
  refine wp_region_o [(0, 0), (1, 1), (2, 0), (3, 1), (4, 0), (5, 0), (6, 0), (7, 0), (8, 0), (9, 0), (10, 0), (11, 1), (13, 1), (12, 2), (14, 0), (15, 0), (16, 0), (17, 0), (18, 0), (19, 0), (20, 0), (21, 0), (22, 0), (23, 0), (24, 2), (25, 0), (26, 0)] (by kernel_rfl) (by kernel_rfl) ?_
  repeat (first
    | (apply wpO_pure rfl rfl; (focus (intro w'; go_simp; (try rfl); done)); try simp only [Act.put, List.setIfInBounds_toArray, List.set_cons_zero, List.set_cons_succ])
    | (apply wpO_read rfl rfl; (focus (intro w' hf' hs'; (try simp only [World.size_drew, World.cell?_drew, World.size_alloc, World.size_setCell] at hs'); go_simp; (try rfl); done)); try simp only [Act.put, List.setIfInBounds_toArray, List.set_cons_zero, List.set_cons_succ])
    | (apply wpO_skip (by decide) rfl rfl; try simp only [Act.put, List.setIfInBounds_toArray, List.set_cons_zero, List.set_cons_succ]))
  apply wpO_read rfl rfl
  (focus (intro w' hf' hs'; have hrd := run_str (c := c2) ((HS23.out.fr0 HF7.out).drew.fr0 hf'); go_simp; (try rfl); done))
  try simp only [Act.put, List.setIfInBounds_toArray, List.set_cons_zero, List.set_cons_succ]
  repeat (first
    | (apply wpO_pure rfl rfl; (focus (intro w'; go_simp; (try rfl); done)); try simp only [Act.put, List.setIfInBounds_toArray, List.set_cons_zero, List.set_cons_succ])
    | (apply wpO_read rfl rfl; (focus (intro w' hf' hs'; (try simp only [World.size_drew, World.cell?_drew, World.size_alloc, World.size_setCell] at hs'); go_simp; (try rfl); done)); try simp only [Act.put, List.setIfInBounds_toArray, List.set_cons_zero, List.set_cons_succ])
    | (apply wpO_skip (by decide) rfl rfl; try simp only [Act.put, List.setIfInBounds_toArray, List.set_cons_zero, List.set_cons_succ]))
  apply wpO_read rfl rfl
  (focus (intro w' hf' hs'; have hrd := run_str (c := c3) ((HS3.out.fr0 HF7.out).drew.fr0 hf'); go_simp; (try rfl); done))
  try simp only [Act.put, List.setIfInBounds_toArray, List.set_cons_zero, List.set_cons_succ]
  repeat (first
    | (apply wpO_pure rfl rfl; (focus (intro w'; go_simp; (try rfl); done)); try simp only [Act.put, List.setIfInBounds_toArray, List.set_cons_zero, List.set_cons_succ])
    | (apply wpO_read rfl rfl; (focus (intro w' hf' hs'; (try simp only [World.size_drew, World.cell?_drew, World.size_alloc, World.size_setCell] at hs'); go_simp; (try rfl); done)); try simp only [Act.put, List.setIfInBounds_toArray, List.set_cons_zero, List.set_cons_succ])
    | (apply wpO_skip (by decide) rfl rfl; try simp only [Act.put, List.setIfInBounds_toArray, List.set_cons_zero, List.set_cons_succ]))
  refine wpO_loudE rfl fun K hK => ?_
  go_simp
  refine (taken_any gm _).mono ?_
  rintro e w8 ⟨rfl, hf8⟩
  refine hK _ _ ⟨hf8, ?_⟩
  clear hK K
  have HF8 := Lib.hid (((Fr.refl No w7).drew).trans hf8)
  clear hf8
  repeat (first
    | (apply wpO_pure rfl rfl; (focus (intro w'; go_simp; (try rfl); done)); try simp only [Act.put, List.setIfInBounds_toArray, List.set_cons_zero, List.set_cons_succ])
    | (apply wpO_read rfl rfl; (focus (intro w' hf' hs'; (try simp only [World.size_drew, World.cell?_drew, World.size_alloc, World.size_setCell] at hs'); go_simp; (try rfl); done)); try simp only [Act.put, List.setIfInBounds_toArray, List.set_cons_zero, List.set_cons_succ])
    | (apply wpO_skip (by decide) rfl rfl; try simp only [Act.put, List.setIfInBounds_toArray, List.set_cons_zero, List.set_cons_succ]))
  refine wpO_loudE rfl fun K hK => ?_
  go_simp
  refine (kept_any _ g4 c4 A c e l _ (HL7.out.fr0 HF8.out) (((H.out.fr0 HF3.out).fr0 HF7.out).fr0 HF8.out) HM.out).mono ?_
  rintro e w9 ⟨rfl, hf9⟩
  refine hK _ _ ⟨hf9, ?_⟩
  clear hK K
  have HF9 := Lib.hid (HF8.out.trans hf9)
  clear hf9 hq hgu s0 s1 s2 s3 s4 s5 s6 s7 s8 t0 t1 t2 t3 t4 t5 t6 t7 t8
  repeat (first
    | (apply wpO_pure rfl rfl; (focus (intro w'; go_simp; (try rfl); done)); try simp only [Act.put, List.setIfInBounds_toArray, List.set_cons_zero, List.set_cons_succ])
    | (apply wpO_read rfl rfl; (focus (intro w' hf' hs'; (try simp only [World.size_drew, World.cell?_drew, World.size_alloc, World.size_setCell] at hs'); go_simp; (try rfl); done)); try simp only [Act.put, List.setIfInBounds_toArray, List.set_cons_zero, List.set_cons_succ])
    | (apply wpO_skip (by decide) rfl rfl; try simp only [Act.put, List.setIfInBounds_toArray, List.set_cons_zero, List.set_cons_succ]))
  refine wpO_nil ?_
  by_cases hp : pe = 0
  · subst hp
    have hr : rightB m = true := putE_zero HPE.out
    have hpm : pl = bytesM m := by rw [HPL.out, putL_right hr]
    have hbl := bytesM_length m
    have hrl := right_len hr
    rw [← hpm] at hbl
    have HPL2 := Lib.hid hbl
    have hgot := got_put hr HC0.out HC1.out
    rw [← hpm] at hgot
    have HGX : Hid (∀ A c e w, Sl w e 1 A pl.length (enc8 pl) → pl.length ≤ c → Calls Try.prog 49 #[.slice A pl.length c] w fun e w' => e = .returned (msgErr m 0) ∧ Fr No w w') := Lib.hid (fun A c e w h1 h2 => by
      have := getM_any A c e pl w h1 h2 (by simp only [maxLen]; omega)
      rw [hgot] at this
      exact this)
    clear hr hpm hbl hrl hgot
    go_wp2_with (first
      | (go_at_call 40; refine (spoil_any g4 c4 l.length _ (HL7.out.fr0 HF9.out).open (by have := HM.out; simp only [maxLen]; omega)).mono ?_; rintro e w10 ⟨⟨v, rfl⟩, hf10⟩; have HF10 := Lib.hid ((HF7.out.trans HF9.out).step hf10 (fun i hi => .inr (hi ▸ HB4.out))); have B10 := HB3.out.fr HF10.out (fun h => h); obtain ⟨r0, r1, r2, r3, r4, r5, r6, r7⟩ := B10.cells8; have lB := B10.lt; have HB10 := Lib.hid B10; clear hf10 B10)
      | (go_at_call 49; refine (HGX.out A2 c2 _ _ (HS23.out.fr0 HF10.out) HC2.out).mono ?_; rintro e w11 ⟨rfl, hf11⟩; have HF11 := Lib.hid (HF10.out.trans hf11); have HB11 := Lib.hid (HB10.out.fr hf11 (fun h => h)); clear hf11 r0 r1 r2 r3 r4 r5 r6 r7 lB))
    have B12 := HB11.out.alloc (Obj.cells m.vals.toArray 28)
    have C12 := Blk.new w11 28 m.vals
    obtain ⟨s0, s1, s2, s3, s4, s5, s6, s7⟩ := B12.cells8
    have s8 := B12.lt
    obtain ⟨t0, t1, t2, t3, t4, t5, t6, t7⟩ := C12.cells8
    have t8 := C12.lt
    have HF12 := Lib.hid (HF11.out.alloc (Obj.cells m.vals.toArray 28))
    obtain ⟨w12, hw12⟩ : ∃ w12, w12 = w11.alloc (Obj.cells m.vals.toArray 28) := ⟨_, rfl⟩
    rw [← hw12] at s0 s1 s2 s3 s4 s5 s6 s7 s8 t0 t1 t2 t3 t4 t5 t6 t7 t8 HF12
    rw [show w11.alloc (Obj.cells #[.int .i64 m.frm, .int .i64 m.to_, .int .i64 m.kind, .int .i64 m.n, .int .i64 m.low, .int .i64 m.mins, .int .i64 m.code, .string m.text] 28) = w12 from hw12.symm]
    clear B12 C12 hw12
    have hq := msg_eql m
    have hgu : ∀ (w : World) (x y : Operand) (u v : Msg), (eqGuard .eql 30 x y u.val v.val).run Try.prog w = .ok () w := fun w x y u v => run_eqGuard_agg w .eql _ x y _ _ refMsg_guard
    refine wp_region_o [(0, 1), (2, 1), (1, 2), (3, 0), (4, 0), (5, 0), (6, 0), (7, 0), (8, 0), (9, 2), (10, 0), (11, 0)] (by kernel_rfl) (by kernel_rfl) ?_
    repeat (first
      | (apply wpO_pure rfl rfl; (focus (intro w'; go_simp; (try rfl); done)); try simp only [Act.put, List.setIfInBounds_toArray, List.set_cons_zero, List.set_cons_succ])
      | (apply wpO_read rfl rfl; (focus (intro w' hf' hs'; (try simp only [World.size_drew, World.cell?_drew, World.size_alloc, World.size_setCell] at hs'); go_simp; (try rfl); done)); try simp only [Act.put, List.setIfInBounds_toArray, List.set_cons_zero, List.set_cons_succ])
      | (apply wpO_skip (by decide) rfl rfl; try simp only [Act.put, List.setIfInBounds_toArray, List.set_cons_zero, List.set_cons_succ]))
    refine wpO_loudE rfl fun K hK => ?_
    go_simp
    refine (taken_any m _).mono ?_
    rintro e w13 ⟨rfl, hf13⟩
    refine hK _ _ ⟨hf13, ?_⟩
    clear hK K
    have HF13 := Lib.hid ((HF12.out.drew).trans hf13)
    clear hf13
    repeat (first
      | (apply wpO_pure rfl rfl; (focus (intro w'; go_simp; (try rfl); done)); try simp only [Act.put, List.setIfInBounds_toArray, List.set_cons_zero, List.set_cons_succ])
      | (apply wpO_read rfl rfl; (focus (intro w' hf' hs'; (try simp only [World.size_drew, World.cell?_drew, World.size_alloc, World.size_setCell] at hs'); go_simp; (try rfl); done)); try simp only [Act.put, List.setIfInBounds_toArray, List.set_cons_zero, List.set_cons_succ])
      | (apply wpO_skip (by decide) rfl rfl; try simp only [Act.put, List.setIfInBounds_toArray, List.set_cons_zero, List.set_cons_succ]))
    refine wpO_loudE rfl fun K hK => ?_
    go_simp
    refine (known_any _).mono ?_
    rintro e w14 ⟨rfl, hf14⟩
    refine hK _ _ ⟨hf14, ?_⟩
    clear hK K
    repeat (first
      | (apply wpO_pure rfl rfl; (focus (intro w'; go_simp; (try rfl); done)); try simp only [Act.put, List.setIfInBounds_toArray, List.set_cons_zero, List.set_cons_succ])
      | (apply wpO_read rfl rfl; (focus (intro w' hf' hs'; (try simp only [World.size_drew, World.cell?_drew, World.size_alloc, World.size_setCell] at hs'); go_simp; (try rfl); done)); try simp only [Act.put, List.setIfInBounds_toArray, List.set_cons_zero, List.set_cons_succ])
      | (apply wpO_skip (by decide) rfl rfl; try simp only [Act.put, List.setIfInBounds_toArray, List.set_cons_zero, List.set_cons_succ]))
    refine wpO_nil ?_
    go_wp2
    go_ret
    exact ⟨rfl, (HF3.out.trans HF13.out).trans hf14⟩
  · have hp1 : (pe != 0) = true := bne_iff_ne.2 hp
    clear hp
    go_wp2_with (first
      | (go_at_call 40; refine (spoil_any g4 c4 l.length _ (HL7.out.fr0 HF9.out).open (by have := HM.out; simp only [maxLen]; omega)).mono ?_; rintro e w10 ⟨⟨v, rfl⟩, hf10⟩; have HF10 := Lib.hid ((HF7.out.trans HF9.out).step hf10 (fun i hi => .inr (hi ▸ HB4.out))); have B10 := HB3.out.fr HF10.out (fun h => h); obtain ⟨r0, r1, r2, r3, r4, r5, r6, r7⟩ := B10.cells8; have lB := B10.lt; have HB10 := Lib.hid B10; clear hf10 B10)
      | (go_at_call 21; refine (known_any _).mono ?_; rintro e w12 ⟨rfl, hf12⟩))
    go_ret
    exact ⟨rfl, (HF3.out.trans HF10.out).trans hf12⟩
end Go.Proofs.Ytegogggemmcgdaa
