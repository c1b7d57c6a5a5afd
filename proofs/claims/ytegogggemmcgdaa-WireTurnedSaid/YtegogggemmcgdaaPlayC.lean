/- WirePlays: Same. -/
import Derived.Test.YtegogggemmcgdaaPlayB
import Derived.Laws.StructEq
namespace Go.Proofs.Ytegogggemmcgdaa
open Go Go.RowKit Go.Proofs

theorem refMsg_und' : Try.prog.underlying 30 = some (.struct (Try.prog.fieldsOf 30)) := by kernel_rfl
theorem refMsg_fields' : (Try.prog.fieldsOf 30).toList.map (fun f => (f.name == "_", f.type, f.offset)) = [(false, 3, 0), (false, 3, 1), (false, 3, 2), (false, 2, 3), (false, 2, 4), (false, 2, 5), (false, 2, 6), (false, 9, 7)] := by kernel_rfl
theorem msg_equal (x : Msg) (w : World) : (Op.equalIn 10000 30 x.val x.val).run Try.prog w = .ok true w := by
  rw [run_equalIn_agg w 9999 _ _ _ refMsg_und' (by kernel_rfl)]
  have key : ∀ (fs : List Field), (fs.map fun f => (f.name == "_", f.type, f.offset)) = [(false, 3, 0), (false, 3, 1), (false, 3, 2), (false, 2, 3), (false, 2, 4), (false, 2, 5), (false, 2, 6), (false, 9, 7)] →
      (Op.eqFields 9999 x.vals.toArray x.vals.toArray fs).run Try.prog w = .ok true w := by
    intro fs hfs
    have hlen : fs.length = 8 := by have := congrArg List.length hfs; simpa using this
    match fs, hlen with
    | [f0, f1, f2, f3, f4, f5, f6, f7], _ =>
      simp only [List.map_cons, List.map_nil, List.cons.injEq, Prod.mk.injEq, and_true] at hfs
      obtain ⟨⟨a0, b0, c0⟩, ⟨a1, b1, c1⟩, ⟨a2, b2, c2⟩, ⟨a3, b3, c3⟩, ⟨a4, b4, c4⟩, ⟨a5, b5, c5⟩, ⟨a6, b6, c6⟩, ⟨a7, b7, c7⟩⟩ := hfs
      obtain ⟨i3, hi3, hz3, hs3, _⟩ := info_parts (show (Try.prog.info? 3).map (fun i => (i.zero, i.size, i.bytes)) = some (some (.int .i64 0), 1, 8) by kernel_rfl)
      obtain ⟨i2, hi2, hz2, hs2, _⟩ := info_parts (show (Try.prog.info? 2).map (fun i => (i.zero, i.size, i.bytes)) = some (some (.int .i64 0), 1, 8) by kernel_rfl)
      obtain ⟨i9, hi9, hz9, hs9, _⟩ := info_parts (show (Try.prog.info? 9).map (fun i => (i.zero, i.size, i.bytes)) = some (some (.string ByteArray.empty), 1, 16) by kernel_rfl)
      have u3 : Try.prog.underlying 3 = some (.int .i64) := by kernel_rfl
      have u2 : Try.prog.underlying 2 = some (.int .i64) := by kernel_rfl
      have u9 : Try.prog.underlying 9 = some .string := by kernel_rfl
      simp [Op.eqFields, a0, a1, a2, a3, a4, a5, a6, a7, b0, b1, b2, b3, b4, b5, b6, b7, c0, c1, c2, c3, c4, c5, c6, c7, part, isAgg, sizeOf, typeInfo, hi3, hi2, hi9, hs3, hs2, hs9, hz3, hz2, hz9, run_equalIn_int (k' := .i64) (h := u3), run_equalIn_int (k' := .i64) (h := u2), run_equalIn_string (h := u9)]
  exact key _ refMsg_fields'
theorem msg_neq (x : Msg) (w : World) : (binOp .neq 30 x.val x.val).run Try.prog w = .ok (.bool false) w := by
  rw [run_neq_struct, msg_equal]; rfl
theorem msg_eql (x : Msg) (w : World) : (binOp .eql 30 x.val x.val).run Try.prog w = .ok (.bool true) w := by
  rw [run_eql_struct, msg_equal]; rfl
theorem refMsg_guard : Try.prog.eqGuardType Try.prog.depth 30 = false := by kernel_rfl
def SmRel (w0 : World) (l : List Msg) (g : Nat) (v5 : Value) (wr : World) : Prop := ∃ k : Nat, k + g = l.length ∧ v5 = .int .i64 k ∧ Fr No w0 wr
set_option maxRecDepth 100000 in
set_option maxHeartbeats 2000000 in
theorem same_any (A B : Option Addr) (c d : Nat) (l : List Msg) (w : World) (hA : Sl w 30 8 A l.length (l.flatMap Msg.vals)) (hB : Sl w 30 8 B l.length (l.flatMap Msg.vals)) (hl : l.length ≤ 1000) :
    Calls Try.prog 43 #[.slice A l.length c, .slice B l.length d] w fun e w' => e = .returned (.bool true) ∧ Fr No w w' := by
  have HA := Lib.hid hA
  have HB := Lib.hid hB
  have hl0 : (0 : Int) ≤ (l.length : Int) := by omega
  have hl1 : (l.length : Int) ≤ 1000 := by omega
  clear hA hB hl
  have hne := msg_neq
  have hgu : ∀ (w : World) (x y : Operand) (u v : Msg), (eqGuard .neq 30 x y u.val v.val).run Try.prog w = .ok () w := fun w x y u v => run_eqGuard_agg w .neq _ x y _ _ refMsg_guard
  go_enter Try.func43, Try.ntmps43
  go_wp2
  go_loopg [5] l.length (fun g v5 wr => SmRel w l g v5 wr)
  case atStart => exact ⟨0, by omega, rfl, Fr.refl _ _⟩
  case round =>
    obtain ⟨k, hg, rfl, hf⟩ := hrel
    have HF := Lib.hid hf
    clear hf
    have hk0 : (0 : Int) ≤ (k : Int) := by omega
    by_cases hlt : k < l.length
    · have hk1 : (k : Int) < (l.length : Int) := by omega
      obtain ⟨x, hx⟩ : ∃ x, l[k]? = some x := ⟨_, List.getElem?_eq_getElem hlt⟩
      obtain ⟨b, o, rfl, hb, ⟨m0, m1, m2, m3, m4, m5, m6, m7⟩⟩ := msg_cells (HA.out.fr0 HF.out) hx
      obtain ⟨b', o', rfl, hb', ⟨q0, q1, q2, q3, q4, q5, q6, q7⟩⟩ := msg_cells (HB.out.fr0 HF.out) hx
      clear hx
      go_wp2
      refine wp_region_o [(0, 0), (1, 0), (2, 0), (4, 0), (5, 0), (6, 0), (3, 1), (7, 1), (8, 0)] (by kernel_rfl) (by kernel_rfl) ?_
      repeat (first
        | (apply wpO_pure rfl rfl; (focus (intro w'; go_simp; (try rfl); done)); try simp only [Act.put, List.setIfInBounds_toArray, List.set_cons_zero, List.set_cons_succ])
        | (apply wpO_read rfl rfl; (focus (intro w' hf' hs'; (try simp only [World.size_drew, World.cell?_drew, World.size_alloc, World.size_setCell] at hs'); go_simp; (try rfl); done)); try simp only [Act.put, List.setIfInBounds_toArray, List.set_cons_zero, List.set_cons_succ])
        | (apply wpO_skip (by decide) rfl rfl; try simp only [Act.put, List.setIfInBounds_toArray, List.set_cons_zero, List.set_cons_succ]))
      refine wpO_nil ?_
      go_wp2
      go_roundg (l.length - (k + 1))
      case measure => omega
      case rel => exact ⟨k + 1, by omega, by go_num, by have hh := HF.out; (repeat (first | exact Fr.refl _ _ | assumption | refine Fr.drew ?_ | refine Fr.alloc ?_ _ | refine Fr.drewL ?_))⟩
    · obtain rfl : k = l.length := by omega
      go_wp2
      go_ret
      exact ⟨rfl, HF.out⟩
end Go.Proofs.Ytegogggemmcgdaa
