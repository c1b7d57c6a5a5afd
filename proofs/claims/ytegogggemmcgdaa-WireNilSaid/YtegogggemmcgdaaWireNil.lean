/- WireNil: a net that is not there answers so; the walk. -/
import Derived.Test.YtegogggemmcgdaaWireL
namespace Go.Proofs.Ytegogggemmcgdaa
open Go Go.RowKit Go.Proofs

theorem drain_nil (i : Int) (w : World) :
    Calls Try.prog 23 #[.pointer none, .int .i64 i] w fun e w' => e = .returned (.tuple #[.slice none 0 0, .int .i64 2]) ∧ Fr No w w' := by
  go_enter Try.func23, Try.ntmps23
  go_wp2
  go_ret2
  exact ⟨rfl, Fr.refl _ _⟩
theorem list_nil (w : World) :
    Calls Try.prog 42 #[.pointer none] w fun e w' => e = .returned (.slice none 0 0) ∧ Fr No w w' := by
  go_enter Try.func42, Try.ntmps42
  go_wp2
  go_ret
  exact ⟨rfl, Fr.refl _ _⟩
set_option maxRecDepth 100000 in
set_option maxHeartbeats 4000000 in
theorem wireNil_walk (x : Msg) (i : Int) (w : World) :
    Calls Try.prog 10 #[x.val, .int .i64 i] w fun e w' => e = .returned (.bool true) ∧ Fr No w w' := by
  go_enter Try.func10, Try.ntmps10
  go_wp2_with (first
    | (go_at_call 20; refine (take_nil _ _).mono ?_; rintro e w1 ⟨rfl, hf1⟩; have hx := ((Blk.new w 30 x.vals).fr hf1 (fun h => h)).alloc (Obj.cells zeroMsg.vals.toArray 28); have hG := Lib.hid ((((Fr.refl No w).alloc (Obj.cells x.vals.toArray 30)).trans hf1).alloc (Obj.cells zeroMsg.vals.toArray 28)); clear hf1)
    | (go_at_call 23; refine (drain_nil _ _).mono ?_; rintro e w2 ⟨rfl, hf2⟩; have hx2 := hx.fr hf2 (fun h => h); obtain ⟨r0, r1, r2, r3, r4, r5, r6, r7⟩ := hx2.cells8; have hG2 := Lib.hid (hG.out.trans hf2); clear hf2 hx)
    | (go_at_call 14; refine (given_any x _).mono ?_; rintro e w3 ⟨rfl, hf3⟩; have hG3 := Lib.hid (hG2.out.trans hf3); clear hf3)
    | (go_at_call 15; refine (send_nil x _).mono ?_; rintro e w4 ⟨rfl, hf4⟩; have hG4 := Lib.hid (hG3.out.trans hf4); clear hf4)
    | (go_at_call 22; refine (lose_nil _ _).mono ?_; rintro e w5 ⟨rfl, hf5⟩; have hG5 := Lib.hid (hG4.out.trans hf5); clear hf5)
    | (go_at_call 46; refine (twice_nil _ _).mono ?_; rintro e w6 ⟨rfl, hf6⟩; have hG6 := Lib.hid (hG5.out.trans hf6); clear hf6)
    | (go_at_call 17; refine (cut_nil _ _ _).mono ?_; rintro e w7 ⟨rfl, hf7⟩; have hG7 := Lib.hid (hG6.out.trans hf7); clear hf7)
    | (go_at_call 18; refine (join_nil _ _ _).mono ?_; rintro e w8 ⟨rfl, hf8⟩; have hG8 := Lib.hid (hG7.out.trans hf8); clear hf8)
    | (go_at_call 19; refine (first_nil _).mono ?_; rintro e w9 ⟨rfl, hf9⟩; have hG9 := Lib.hid (hG8.out.trans hf9); clear hf9)
    | (go_at_call 24; refine (len_nil _).mono ?_; rintro e w10 ⟨rfl, hf10⟩; have hG10 := Lib.hid (hG9.out.trans hf10); clear hf10)
    | (go_at_call 42; refine (list_nil _).mono ?_; rintro e w11 ⟨rfl, hf11⟩; have hG11 := Lib.hid (hG10.out.trans hf11); clear hf11)
    | (go_at_call 21; refine (known_any _).mono ?_; rintro e w12 ⟨rfl, hf12⟩; have hG12 := Lib.hid (hG11.out.trans hf12); clear hf12))
  go_ret
  exact ⟨rfl, hG12.out⟩
end Go.Proofs.Ytegogggemmcgdaa
