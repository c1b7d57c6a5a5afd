/- ref.Net: open, Send. -/
import Derived.Test.YtegogggemmcgdaaRefA
import Derived.Test.YtegogggemmcgdaaOrdS
namespace Go.Proofs.Ytegogggemmcgdaa
open Go Go.RowKit Go.Proofs

def ORelR (w0 : World) (y : Msg) (K : List (Int × Int)) (g : Nat) (v5 : Value) (wr : World) : Prop :=
  ∃ k : Nat, k + g = K.length ∧ v5 = .int .i64 k ∧ (K.take k).any (hitB y.frm y.to_) = false ∧ Fr No w0 wr
set_option maxRecDepth 100000 in
set_option maxHeartbeats 4000000 in
theorem refOpen_any (r : Nat) (l : List Msg) (K : List (Int × Int)) (y : Msg) (w : World) (h : RefAt w r l K) (hK : K.length ≤ 1000) :
    Calls Try.prog 83 #[.pointer (some ⟨r, 0, none⟩), y.val] w fun e w' => e = .returned (.bool (!refCut K y)) ∧ Fr No w w' := by
  have H := Lib.hid h
  have hk0 : (0 : Int) ≤ (K.length : Int) := by omega
  have hk1 : (K.length : Int) ≤ 1000 := by omega
  clear h hK
  go_enter Try.func83, Try.ntmps83
  go_wp2
  go_loopg [5] K.length (fun g v5 wr => ORelR (w.alloc (Obj.cells y.vals.toArray 30)) y K g v5 wr)
  case atStart => exact ⟨0, by omega, rfl, rfl, Fr.refl _ _⟩
  case round =>
    obtain ⟨k, hg, rfl, hany, hfr⟩ := hrel
    have HA := Lib.hid hany
    have HF := Lib.hid hfr
    have hR := RefAt.fr0 (w' := wr) (H.out.fr0 ((Fr.refl No w).alloc (Obj.cells y.vals.toArray 30))) HF.out
    have HR := Lib.hid hR
    have hbx := (Blk.new w 30 y.vals).fr HF.out (fun h => h)
    have bx0 := hbx.cell 0
    have bx1 := hbx.cell 1
    have bxl := hbx.lt
    simp only [List.getElem?_cons_zero, List.getElem?_cons_succ] at bx0 bx1
    obtain ⟨A, c, A2, c2, hB, hS, hc, hS2, hc2⟩ := hR
    have n1 := hB.cell 1
    simp only [List.getElem?_cons_zero, List.getElem?_cons_succ] at n1
    have rl := hB.lt
    clear hany hfr hbx hB hS
    have hkk : (0 : Int) ≤ (k : Int) := by omega
    by_cases hlt : k < K.length
    · have hlt1 : (k : Int) < (K.length : Int) := by omega
      obtain ⟨x, hx⟩ : ∃ x, K[k]? = some x := ⟨_, List.getElem?_eq_getElem hlt⟩
      obtain ⟨b, o, rfl, hb, x0, x1⟩ := link_cells hS2 hx
      have HX := Lib.hid hx
      clear hx hS2
      go_wp2
      refine OS.wp_region_o No [(0, 0), (1, 0), (2, 0), (3, 1), (4, 0), (5, 0), (6, 0), (7, 1), (8, 0), (9, 1), (10, 0), (11, 0), (12, 0), (13, 0), (14, 0), (15, 1), (16, 0), (17, 0), (18, 0), (19, 1), (20, 0), (21, 1), (22, 0), (23, 0), (24, 0), (25, 0), (26, 0), (27, 0), (28, 1), (29, 0), (30, 0), (31, 0), (32, 1), (33, 0), (34, 1), (35, 0), (36, 0), (37, 0), (38, 0), (39, 0), (40, 1), (41, 0), (42, 0), (43, 0), (44, 1), (45, 0), (46, 1), (47, 0), (48, 0), (49, 0)] (by kernel_rfl) (by kernel_rfl) ?_
      repeat (first
        | (apply OS.wpO_pure rfl rfl; (focus (intro w'; go_simp; (try rfl); done)); try simp only [Act.put, List.setIfInBounds_toArray, List.set_cons_zero, List.set_cons_succ])
        | (apply OS.wpO_read rfl rfl; (focus (intro w' hf' hs'; (try simp only [World.size_drew, World.cell?_drew, World.size_alloc, World.size_setCell, not_false_eq_true, forall_const] at hs'); go_simp; (try rfl); done)); try simp only [Act.put, List.setIfInBounds_toArray, List.set_cons_zero, List.set_cons_succ])
        | (apply OS.wpO_skip (by decide) rfl rfl; try simp only [Act.put, List.setIfInBounds_toArray, List.set_cons_zero, List.set_cons_succ]))
      cases h1 : (x.1 == y.frm)
      · skip
        repeat (first
          | (apply OS.wpO_pure rfl rfl; (focus (intro w'; go_simp; (try rfl); done)); try simp only [Act.put, List.setIfInBounds_toArray, List.set_cons_zero, List.set_cons_succ])
          | (apply OS.wpO_read rfl rfl; (focus (intro w' hf' hs'; (try simp only [World.size_drew, World.cell?_drew, World.size_alloc, World.size_setCell, not_false_eq_true, forall_const] at hs'); go_simp; (try rfl); done)); try simp only [Act.put, List.setIfInBounds_toArray, List.set_cons_zero, List.set_cons_succ])
          | (apply OS.wpO_skip (by decide) rfl rfl; try simp only [Act.put, List.setIfInBounds_toArray, List.set_cons_zero, List.set_cons_succ]))
        cases h3 : (x.1 == y.to_)
        · skip
          have HH := Lib.hid (show (K.take (k + 1)).any (hitB y.frm y.to_) = false by rw [any_take_succ HX.out, HA.out]; simp [hitB, h1, h3])
          repeat (first
            | (apply OS.wpO_pure rfl rfl; (focus (intro w'; go_simp; (try rfl); done)); try simp only [Act.put, List.setIfInBounds_toArray, List.set_cons_zero, List.set_cons_succ])
            | (apply OS.wpO_read rfl rfl; (focus (intro w' hf' hs'; (try simp only [World.size_drew, World.cell?_drew, World.size_alloc, World.size_setCell, not_false_eq_true, forall_const] at hs'); go_simp; (try rfl); done)); try simp only [Act.put, List.setIfInBounds_toArray, List.set_cons_zero, List.set_cons_succ])
            | (apply OS.wpO_skip (by decide) rfl rfl; try simp only [Act.put, List.setIfInBounds_toArray, List.set_cons_zero, List.set_cons_succ]))
          refine OS.wpO_nil ?_
          go_wp2
          go_roundg (K.length - (k + 1))
          case measure => omega
          case rel => exact ⟨k + 1, by omega, by go_num, HH.out, by have hh := HF.out; (repeat (first | exact Fr.refl _ _ | assumption | refine Fr.drew ?_ | refine Fr.alloc ?_ _ | refine Fr.drewL ?_))⟩
        · skip
          repeat (first
            | (apply OS.wpO_pure rfl rfl; (focus (intro w'; go_simp; (try rfl); done)); try simp only [Act.put, List.setIfInBounds_toArray, List.set_cons_zero, List.set_cons_succ])
            | (apply OS.wpO_read rfl rfl; (focus (intro w' hf' hs'; (try simp only [World.size_drew, World.cell?_drew, World.size_alloc, World.size_setCell, not_false_eq_true, forall_const] at hs'); go_simp; (try rfl); done)); try simp only [Act.put, List.setIfInBounds_toArray, List.set_cons_zero, List.set_cons_succ])
            | (apply OS.wpO_skip (by decide) rfl rfl; try simp only [Act.put, List.setIfInBounds_toArray, List.set_cons_zero, List.set_cons_succ]))
          cases h4 : (x.2 == y.frm)
          · skip
            have HH := Lib.hid (show (K.take (k + 1)).any (hitB y.frm y.to_) = false by rw [any_take_succ HX.out, HA.out]; simp [hitB, h1, h3, h4])
            repeat (first
              | (apply OS.wpO_pure rfl rfl; (focus (intro w'; go_simp; (try rfl); done)); try simp only [Act.put, List.setIfInBounds_toArray, List.set_cons_zero, List.set_cons_succ])
              | (apply OS.wpO_read rfl rfl; (focus (intro w' hf' hs'; (try simp only [World.size_drew, World.cell?_drew, World.size_alloc, World.size_setCell, not_false_eq_true, forall_const] at hs'); go_simp; (try rfl); done)); try simp only [Act.put, List.setIfInBounds_toArray, List.set_cons_zero, List.set_cons_succ])
              | (apply OS.wpO_skip (by decide) rfl rfl; try simp only [Act.put, List.setIfInBounds_toArray, List.set_cons_zero, List.set_cons_succ]))
            refine OS.wpO_nil ?_
            go_wp2
            go_roundg (K.length - (k + 1))
            case measure => omega
            case rel => exact ⟨k + 1, by omega, by go_num, HH.out, by have hh := HF.out; (repeat (first | exact Fr.refl _ _ | assumption | refine Fr.drew ?_ | refine Fr.alloc ?_ _ | refine Fr.drewL ?_))⟩
          · skip
            have HH := Lib.hid (show refCut K y = true from any_of_take HX.out (by simp only [hitB, h1, h3, h4]; rfl))
            repeat (first
              | (apply OS.wpO_pure rfl rfl; (focus (intro w'; go_simp; (try rfl); done)); try simp only [Act.put, List.setIfInBounds_toArray, List.set_cons_zero, List.set_cons_succ])
              | (apply OS.wpO_read rfl rfl; (focus (intro w' hf' hs'; (try simp only [World.size_drew, World.cell?_drew, World.size_alloc, World.size_setCell, not_false_eq_true, forall_const] at hs'); go_simp; (try rfl); done)); try simp only [Act.put, List.setIfInBounds_toArray, List.set_cons_zero, List.set_cons_succ])
              | (apply OS.wpO_skip (by decide) rfl rfl; try simp only [Act.put, List.setIfInBounds_toArray, List.set_cons_zero, List.set_cons_succ]))
            refine OS.wpO_nil ?_
            go_wp2
            go_ret
            exact ⟨ret_bool (by rw [HH.out]; rfl), by have hh := HF.out; have h2 := (Fr.alloc (Fr.refl No w) (Obj.cells y.vals.toArray 30)).trans hh; (repeat (first | exact Fr.refl _ _ | assumption | refine Fr.drew ?_ | refine Fr.alloc ?_ _ | refine Fr.drewL ?_))⟩
      · skip
        repeat (first
          | (apply OS.wpO_pure rfl rfl; (focus (intro w'; go_simp; (try rfl); done)); try simp only [Act.put, List.setIfInBounds_toArray, List.set_cons_zero, List.set_cons_succ])
          | (apply OS.wpO_read rfl rfl; (focus (intro w' hf' hs'; (try simp only [World.size_drew, World.cell?_drew, World.size_alloc, World.size_setCell, not_false_eq_true, forall_const] at hs'); go_simp; (try rfl); done)); try simp only [Act.put, List.setIfInBounds_toArray, List.set_cons_zero, List.set_cons_succ])
          | (apply OS.wpO_skip (by decide) rfl rfl; try simp only [Act.put, List.setIfInBounds_toArray, List.set_cons_zero, List.set_cons_succ]))
        cases h2 : (x.2 == y.to_)
        · skip
          repeat (first
            | (apply OS.wpO_pure rfl rfl; (focus (intro w'; go_simp; (try rfl); done)); try simp only [Act.put, List.setIfInBounds_toArray, List.set_cons_zero, List.set_cons_succ])
            | (apply OS.wpO_read rfl rfl; (focus (intro w' hf' hs'; (try simp only [World.size_drew, World.cell?_drew, World.size_alloc, World.size_setCell, not_false_eq_true, forall_const] at hs'); go_simp; (try rfl); done)); try simp only [Act.put, List.setIfInBounds_toArray, List.set_cons_zero, List.set_cons_succ])
            | (apply OS.wpO_skip (by decide) rfl rfl; try simp only [Act.put, List.setIfInBounds_toArray, List.set_cons_zero, List.set_cons_succ]))
          cases h3 : (x.1 == y.to_)
          · skip
            have HH := Lib.hid (show (K.take (k + 1)).any (hitB y.frm y.to_) = false by rw [any_take_succ HX.out, HA.out]; simp [hitB, h1, h2, h3])
            repeat (first
              | (apply OS.wpO_pure rfl rfl; (focus (intro w'; go_simp; (try rfl); done)); try simp only [Act.put, List.setIfInBounds_toArray, List.set_cons_zero, List.set_cons_succ])
              | (apply OS.wpO_read rfl rfl; (focus (intro w' hf' hs'; (try simp only [World.size_drew, World.cell?_drew, World.size_alloc, World.size_setCell, not_false_eq_true, forall_const] at hs'); go_simp; (try rfl); done)); try simp only [Act.put, List.setIfInBounds_toArray, List.set_cons_zero, List.set_cons_succ])
              | (apply OS.wpO_skip (by decide) rfl rfl; try simp only [Act.put, List.setIfInBounds_toArray, List.set_cons_zero, List.set_cons_succ]))
            refine OS.wpO_nil ?_
            go_wp2
            go_roundg (K.length - (k + 1))
            case measure => omega
            case rel => exact ⟨k + 1, by omega, by go_num, HH.out, by have hh := HF.out; (repeat (first | exact Fr.refl _ _ | assumption | refine Fr.drew ?_ | refine Fr.alloc ?_ _ | refine Fr.drewL ?_))⟩
          · skip
            repeat (first
              | (apply OS.wpO_pure rfl rfl; (focus (intro w'; go_simp; (try rfl); done)); try simp only [Act.put, List.setIfInBounds_toArray, List.set_cons_zero, List.set_cons_succ])
              | (apply OS.wpO_read rfl rfl; (focus (intro w' hf' hs'; (try simp only [World.size_drew, World.cell?_drew, World.size_alloc, World.size_setCell, not_false_eq_true, forall_const] at hs'); go_simp; (try rfl); done)); try simp only [Act.put, List.setIfInBounds_toArray, List.set_cons_zero, List.set_cons_succ])
              | (apply OS.wpO_skip (by decide) rfl rfl; try simp only [Act.put, List.setIfInBounds_toArray, List.set_cons_zero, List.set_cons_succ]))
            cases h4 : (x.2 == y.frm)
            · skip
              have HH := Lib.hid (show (K.take (k + 1)).any (hitB y.frm y.to_) = false by rw [any_take_succ HX.out, HA.out]; simp [hitB, h1, h2, h3, h4])
              repeat (first
                | (apply OS.wpO_pure rfl rfl; (focus (intro w'; go_simp; (try rfl); done)); try simp only [Act.put, List.setIfInBounds_toArray, List.set_cons_zero, List.set_cons_succ])
                | (apply OS.wpO_read rfl rfl; (focus (intro w' hf' hs'; (try simp only [World.size_drew, World.cell?_drew, World.size_alloc, World.size_setCell, not_false_eq_true, forall_const] at hs'); go_simp; (try rfl); done)); try simp only [Act.put, List.setIfInBounds_toArray, List.set_cons_zero, List.set_cons_succ])
                | (apply OS.wpO_skip (by decide) rfl rfl; try simp only [Act.put, List.setIfInBounds_toArray, List.set_cons_zero, List.set_cons_succ]))
              refine OS.wpO_nil ?_
              go_wp2
              go_roundg (K.length - (k + 1))
              case measure => omega
              case rel => exact ⟨k + 1, by omega, by go_num, HH.out, by have hh := HF.out; (repeat (first | exact Fr.refl _ _ | assumption | refine Fr.drew ?_ | refine Fr.alloc ?_ _ | refine Fr.drewL ?_))⟩
            · skip
              have HH := Lib.hid (show refCut K y = true from any_of_take HX.out (by simp only [hitB, h1, h2, h3, h4]; rfl))
              repeat (first
                | (apply OS.wpO_pure rfl rfl; (focus (intro w'; go_simp; (try rfl); done)); try simp only [Act.put, List.setIfInBounds_toArray, List.set_cons_zero, List.set_cons_succ])
                | (apply OS.wpO_read rfl rfl; (focus (intro w' hf' hs'; (try simp only [World.size_drew, World.cell?_drew, World.size_alloc, World.size_setCell, not_false_eq_true, forall_const] at hs'); go_simp; (try rfl); done)); try simp only [Act.put, List.setIfInBounds_toArray, List.set_cons_zero, List.set_cons_succ])
                | (apply OS.wpO_skip (by decide) rfl rfl; try simp only [Act.put, List.setIfInBounds_toArray, List.set_cons_zero, List.set_cons_succ]))
              refine OS.wpO_nil ?_
              go_wp2
              go_ret
              exact ⟨ret_bool (by rw [HH.out]; rfl), by have hh := HF.out; have h2 := (Fr.alloc (Fr.refl No w) (Obj.cells y.vals.toArray 30)).trans hh; (repeat (first | exact Fr.refl _ _ | assumption | refine Fr.drew ?_ | refine Fr.alloc ?_ _ | refine Fr.drewL ?_))⟩
        · skip
          have HH := Lib.hid (show refCut K y = true from any_of_take HX.out (by simp only [hitB, h1, h2]; rfl))
          repeat (first
            | (apply OS.wpO_pure rfl rfl; (focus (intro w'; go_simp; (try rfl); done)); try simp only [Act.put, List.setIfInBounds_toArray, List.set_cons_zero, List.set_cons_succ])
            | (apply OS.wpO_read rfl rfl; (focus (intro w' hf' hs'; (try simp only [World.size_drew, World.cell?_drew, World.size_alloc, World.size_setCell, not_false_eq_true, forall_const] at hs'); go_simp; (try rfl); done)); try simp only [Act.put, List.setIfInBounds_toArray, List.set_cons_zero, List.set_cons_succ])
            | (apply OS.wpO_skip (by decide) rfl rfl; try simp only [Act.put, List.setIfInBounds_toArray, List.set_cons_zero, List.set_cons_succ]))
          refine OS.wpO_nil ?_
          go_wp2
          go_ret
          exact ⟨ret_bool (by rw [HH.out]; rfl), by have hh := HF.out; have h2 := (Fr.alloc (Fr.refl No w) (Obj.cells y.vals.toArray 30)).trans hh; (repeat (first | exact Fr.refl _ _ | assumption | refine Fr.drew ?_ | refine Fr.alloc ?_ _ | refine Fr.drewL ?_))⟩
    · obtain rfl : k = K.length := by omega
      go_wp2
      go_ret
      exact ⟨ret_bool (by unfold refCut; rw [← List.take_length (l := K), HA.out]; rfl), by have hh := HF.out; have h2 := (Fr.alloc (Fr.refl No w) (Obj.cells y.vals.toArray 30)).trans hh; (repeat (first | exact Fr.refl _ _ | assumption | refine Fr.drew ?_ | refine Fr.alloc ?_ _ | refine Fr.drewL ?_))⟩
end Go.Proofs.Ytegogggemmcgdaa
