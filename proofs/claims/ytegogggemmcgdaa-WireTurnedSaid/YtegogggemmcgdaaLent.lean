/- the law's helpers Lent, Kept, Spoil. -/
import Derived.Test.YtegogggemmcgdaaGetM
namespace Go.Proofs.Ytegogggemmcgdaa
open Go Go.RowKit Go.Proofs

def a5s : Bs := [165, 165, 165, 165, 165, 165, 165, 165]
theorem slice_h0 {g o n c : Nat} (kh : IntKind) (hi : Nat) (h2 : hi ≤ c) (w : World) :
    (Instr.slice 50 (.slice (some ⟨g, o, none⟩) n c) none (some (.int kh (hi : Int))) none).run Try.prog w = .ok (.slice (some ⟨g, o, none⟩) hi c) w := by
  rw [slice_h kh hi h2 w, Nat.sub_zero, Nat.sub_zero]
  have : cutA (some ⟨g, o, none⟩) 0 c = some ⟨g, o, none⟩ := by
    rw [cutA_def]
    split
    · rfl
    · rw [Option.map_some, add_off]; rfl
  rw [this]
theorem sl_head {w : World} {e : TypeId} {g o : Nat} {l k : Bs} {n : Nat} (h : Sl w e 1 (some ⟨g, o, none⟩) n (enc8 (l ++ k))) : Sl w e 1 (some ⟨g, o, none⟩) l.length (enc8 l) := by
  refine ⟨by rw [enc8_length]; omega, fun hn => ?_⟩
  have hl := h.1
  rw [enc8_length, List.length_append] at hl
  obtain ⟨b, o', cur, fr, hA, hb, hx⟩ := h.2 (by omega)
  refine ⟨b, o', cur, fr, hA, hb, fun j u hu => hx j u ?_⟩
  rw [enc8_append, List.getElem?_append_left]
  · exact hu
  · rcases Nat.lt_or_ge j (enc8 l).length with h | h
    · exact h
    · rw [List.getElem?_eq_none h] at hu; cases hu
/-- a slice that is lent: bytes, and eight more behind -/
structure LentAt (w : World) (base g c : Nat) (l : Bs) : Prop where
  row : w.ownsRow base 5 1 (.slice (some ⟨g, 0, none⟩) (l.length + 8) c) (l.length + 8) (enc8 (l ++ a5s))
  cap : l.length + 8 ≤ c
theorem LentAt.fr {S : Nat → Prop} {w w' : World} {base g c : Nat} {l : Bs} (h : LentAt w base g c l) (hf : Fr S w w') (hS : ¬ S g) : LentAt w' base g c l := ⟨own_fr h.row hf (fun k hk => by
  simp only [Value.ownBlock, Option.some.injEq] at hk
  subst hk
  exact hS), h.cap⟩
theorem LentAt.fr0 {w w' : World} {base g c : Nat} {l : Bs} (h : LentAt w base g c l) (hf : Fr No w w') : LentAt w' base g c l := h.fr hf fun h => h
theorem LentAt.sl {w : World} {base g c : Nat} {l : Bs} (h : LentAt w base g c l) : Sl w 5 1 (some ⟨g, 0, none⟩) l.length (enc8 l) := sl_head (k := a5s) (Sl.of_own h.row)
theorem lent_mk {w : World} {base g c : Nat} {l : Bs} (h : w.ownsRow base 5 1 (.slice (some ⟨g, 0, none⟩) (l.length + 8) c) (l.length + 8) (enc8 (l ++ a5s))) : LentAt w base g c l := by
  refine ⟨h, ?_⟩
  rcases h.2 with ⟨h0, _⟩ | ⟨g', cap, cur, hv, _, _, hc, _⟩
  · cases h0
  · injection hv with h1 h2 h3
    omega
theorem LentAt.base {w : World} {base g c : Nat} {l : Bs} (h : LentAt w base g c l) : base ≤ g ∧ g < w.heap.size := own_size h.row g rfl
set_option maxRecDepth 100000 in
set_option maxHeartbeats 1000000 in
theorem lent_any (A : Option Addr) (c : Nat) (e : TypeId) (l : Bs) (w : World) (h : Sl w e 1 A l.length (enc8 l)) (hm : l.length ≤ 140737488355328) :
    Calls Try.prog 36 #[.slice A l.length c] w fun e w' => ∃ g c', e = .returned (.slice (some ⟨g, 0, none⟩) l.length c') ∧ LentAt w' w.heap.size g c' l ∧ w.heap.size ≤ g ∧ Fr No w w' := by
  have H := Lib.hid h
  have HM := Lib.hid hm
  have hl0 : (0 : Int) ≤ (l.length : Int) := by omega
  have hl2 : (l.length : Int) ≤ 140737488355328 := by omega
  obtain ⟨i, hi, hz, hs, hb⟩ := info_parts u8_info
  obtain ⟨w1, hmk, hown, hgr⟩ := run_make_own (P := Try.prog) w w.heap.size 50 5 i _ 1 bytes_und hi hz hs .i64 .i64 (l.length + 8) (by rw [hb]; omega) (by simp only [maxLen]; omega) (Nat.le_refl _)
  rw [show (((l.length + 8 : Nat)) : Int) = (l.length : Int) + 8 by omega] at hmk
  have HO := Lib.hid hown
  have HF := Lib.hid ((Fr.refl No w).grown hgr (fun k hk => (by cases hk)))
  clear h hm hown hgr hi hz hs hb
  go_enter Try.func36, Try.ntmps36
  go_wp2_with (first
    | (at_builtin; go_loud (refine wpList_buf_append (by rfl) (.tmp 11) (.tmp 12) (by rfl) w.heap.size v2 l (by rfl) (own_fr0 HO2.out ((Fr.refl No w2).alloc _)) _ 8 8 _ a5s (by rfl) (Sl.of_new w2 5 1 8 #[.int .u8 165, .int .u8 165, .int .u8 165, .int .u8 165, .int .u8 165, .int .u8 165, .int .u8 165, .int .u8 165] (enc8 a5s) rfl rfl) (by have := HM.out; omega) (by have := HF2.out.size; simp only [World.size_alloc]; omega) ?_); intro v3 w3 ho3 hg3
       have F3 := HF2.out.alloc (Obj.cells #[.int .u8 165, .int .u8 165, .int .u8 165, .int .u8 165, .int .u8 165, .int .u8 165, .int .u8 165, .int .u8 165] 5)
       have O2 : Buf (w2.alloc (Obj.cells #[.int .u8 165, .int .u8 165, .int .u8 165, .int .u8 165, .int .u8 165, .int .u8 165, .int .u8 165, .int .u8 165] 5)) w.heap.size v2 l := own_fr0 HO2.out ((Fr.refl No w2).alloc _)
       have HF3 := Lib.hid (U8.since F3 (U8.grown (Fr.refl _ _) O2 hg3))
       obtain ⟨A3, c3, rfl, hc3⟩ := own_shape ho3
       unfold Buf at ho3; rw [show (l ++ a5s).length = l.length + 8 by simp [a5s]] at ho3
       obtain ⟨g3, rfl⟩ := buf_some ho3 (by omega)
       have hL := lent_mk ho3
       have HL := Lib.hid hL
       have hsl : ∀ (n : Nat) (w : World), (Instr.slice 50 (.slice (some ⟨g3, 0, none⟩) n c3) none (some (.int .i64 (l.length : Int))) none).run Try.prog w = .ok (.slice (some ⟨g3, 0, none⟩) l.length c3) w := fun n w => slice_h0 .i64 l.length (by have := hL.cap; omega) w
       clear ho3 hg3 F3 O2 hL)
    | (at_builtin; go_loud (refine wpList_buf_append (by rfl) (.tmp 8) (.tmp 9) (by rfl) w.heap.size (.slice (some ⟨w.heap.size, 0, none⟩) 0 (l.length + 8)) [] (by rfl) HO.out A l.length c _ l (by rfl) (H.out.fr0 HF.out) (by have := HM.out; simp only [List.length_nil]; omega) HF.out.size ?_); intro v2 w2 ho2 hg2
       have HO2 : Hid (Buf w2 w.heap.size v2 l) := Lib.hid (by simpa using ho2)
       have HF2 := Lib.hid (U8.since HF.out (U8.grown (l := []) (Fr.refl _ _) HO.out hg2))
       clear ho2 hg2))
  go_ret
  exact ⟨g3, c3, rfl, HL.out, HL.out.base.1, HF3.out⟩
theorem run_str' {w : World} {A : Option Addr} {n c : Nat} {e : TypeId} {l : Bs} (hn : n = l.length) (h : Sl w e 1 A n (enc8 l)) : (convert 50 9 (.slice A n c)).run Try.prog w = .ok (.string (strB l)) w := by
  subst hn
  exact run_str h
theorem str_a5 (l : Bs) : strB l ++ ⟨#[165, 165, 165, 165, 165, 165, 165, 165]⟩ = strB (l ++ a5s) := by
  unfold strB a5s
  have := Go.ByteArray.mk_append_mk l [165, 165, 165, 165, 165, 165, 165, 165]
  exact this
set_option maxRecDepth 100000 in
set_option maxHeartbeats 1000000 in
theorem kept_any (base g c' : Nat) (A : Option Addr) (c : Nat) (e : TypeId) (l : Bs) (w : World) (h : LentAt w base g c' l) (hs : Sl w e 1 A l.length (enc8 l)) (hm : l.length ≤ 140737488355328) :
    Calls Try.prog 39 #[.slice (some ⟨g, 0, none⟩) l.length c', .slice A l.length c] w fun e w' => e = .returned (.bool true) ∧ Fr No w w' := by
  have H := Lib.hid h
  have HS := Lib.hid hs
  have HM := Lib.hid hm
  have hl0 : (0 : Int) ≤ (l.length : Int) := by omega
  have hl2 : (l.length : Int) ≤ 140737488355328 := by omega
  have hc : ¬ (c' : Int) < (l.length : Int) + 8 := by have := h.cap; omega
  have hc2 : ((l.length : Int) + 8) ≤ (c' : Int) := by omega
  have q1 := run_str (c := c') h.sl
  have q2 := run_str (c := c) hs
  have hsl := slice_h0 (g := g) (o := 0) (n := l.length) (c := c') .i64 (l.length + 8) h.cap
  rw [show (((l.length + 8 : Nat)) : Int) = (l.length : Int) + 8 by omega] at hsl
  have hL := Sl.of_own h.row
  have hla : (l ++ a5s).length = l.length + 8 := by simp [a5s]
  have hwl : IntKind.i64.wrap ((l.length : Int) + 8) = (l.length : Int) + 8 := IntWalk.i64_in _ (by omega)
  have hadd : ∀ w, (Op.stringOp .add (strB l) ⟨#[165, 165, 165, 165, 165, 165, 165, 165]⟩).run Try.prog w = .ok (.string (strB (l ++ a5s))) w := fun w => by
    rw [run_string_add_sum w _ _ (by have := strB_size l; have e : (⟨#[165, 165, 165, 165, 165, 165, 165, 165]⟩ : ByteArray).size = 8 := rfl; omega), str_a5]
  have HL := Lib.hid hL
  have HLA := Lib.hid hla
  clear h hs hm hL hla
  go_enter Try.func39, Try.ntmps39
  go_wp2
  clear q1 q2
  refine wp_region_o [(0, 0), (1, 0), (2, 1), (3, 0), (4, 0), (5, 1), (6, 0), (7, 1), (8, 0), (9, 0), (10, 0)] (by kernel_rfl) (by kernel_rfl) ?_
  repeat (first
    | (apply wpO_pure rfl rfl; (focus (intro w'; go_simp; (try rfl); done)); try simp only [Act.put, List.setIfInBounds_toArray, List.set_cons_zero, List.set_cons_succ])
    | (apply wpO_read rfl rfl; (focus (intro w' hf' hs'; (try simp only [World.size_drew, World.cell?_drew, World.size_alloc, World.size_setCell] at hs'); go_simp; (try rfl); done)); try simp only [Act.put, List.setIfInBounds_toArray, List.set_cons_zero, List.set_cons_succ])
    | (apply wpO_skip (by decide) rfl rfl; try simp only [Act.put, List.setIfInBounds_toArray, List.set_cons_zero, List.set_cons_succ]))
  apply wpO_read rfl rfl
  (focus (intro w' hf' hs'; have hrd := run_str' (l := l ++ a5s) (c := c') HLA.out.symm (HL.out.drew.fr0 hf'); go_simp; (try rfl); done))
  try simp only [Act.put, List.setIfInBounds_toArray, List.set_cons_zero, List.set_cons_succ]
  repeat (first
    | (apply wpO_pure rfl rfl; (focus (intro w'; go_simp; (try rfl); done)); try simp only [Act.put, List.setIfInBounds_toArray, List.set_cons_zero, List.set_cons_succ])
    | (apply wpO_read rfl rfl; (focus (intro w' hf' hs'; (try simp only [World.size_drew, World.cell?_drew, World.size_alloc, World.size_setCell] at hs'); go_simp; (try rfl); done)); try simp only [Act.put, List.setIfInBounds_toArray, List.set_cons_zero, List.set_cons_succ])
    | (apply wpO_skip (by decide) rfl rfl; try simp only [Act.put, List.setIfInBounds_toArray, List.set_cons_zero, List.set_cons_succ]))
  apply wpO_read rfl rfl
  (focus (intro w' hf' hs'; have hrd := run_str (c := c) (HS.out.drew.fr0 hf'); go_simp; (try rfl); done))
  try simp only [Act.put, List.setIfInBounds_toArray, List.set_cons_zero, List.set_cons_succ]
  repeat (first
    | (apply wpO_pure rfl rfl; (focus (intro w'; go_simp; (try rfl); done)); try simp only [Act.put, List.setIfInBounds_toArray, List.set_cons_zero, List.set_cons_succ])
    | (apply wpO_read rfl rfl; (focus (intro w' hf' hs'; (try simp only [World.size_drew, World.cell?_drew, World.size_alloc, World.size_setCell] at hs'); go_simp; (try rfl); done)); try simp only [Act.put, List.setIfInBounds_toArray, List.set_cons_zero, List.set_cons_succ])
    | (apply wpO_skip (by decide) rfl rfl; try simp only [Act.put, List.setIfInBounds_toArray, List.set_cons_zero, List.set_cons_succ]))
  refine wpO_nil ?_
  go_wp2
  go_ret
  exact ⟨rfl, (Fr.refl _ _).drew⟩
theorem setCell_row {w : World} {g i : Nat} {cur : Array Value} {t : TypeId} {u : Value} (h : w.heap[g]? = some (Obj.cells cur t (0, 0))) : (w.setCell ⟨g, i, none⟩ u).heap[g]? = some (Obj.cells (cur.setIfInBounds i u) t (0, 0)) := by
  simp [World.setCell, Array.getElem?_modify, h]
/-- a row that may be written -/
def Open8 (w : World) (g n : Nat) : Prop := ∃ cur, w.heap[g]? = some (.cells cur 5 (0, 0)) ∧ n ≤ cur.size
theorem Open8.cell {w : World} {g n : Nat} (h : Open8 w g n) (i : Nat) (hi : i < n) : (∃ u, w.cell? ⟨g, i, none⟩ = some u) ∧ w.frozen? ⟨g, i, none⟩ = false ∧ g < w.heap.size := by
  obtain ⟨cur, h1, h2⟩ := h
  refine ⟨⟨cur[i], ?_⟩, ?_, lt_of_heap h1⟩
  · rw [cell_of_row w g i cur _ _ h1]
    exact Array.getElem?_eq_getElem (by omega)
  · simp [World.frozen?, h1]
theorem Open8.set {w : World} {g n : Nat} (h : Open8 w g n) (i : Nat) (u : Value) : Open8 (w.setCell ⟨g, i, none⟩ u) g n := by
  obtain ⟨cur, h1, h2⟩ := h
  exact ⟨_, setCell_row h1, by simpa using h2⟩
theorem LentAt.open {w : World} {base g c : Nat} {l : Bs} (h : LentAt w base g c l) : Open8 w g l.length := by
  rcases h.row.2 with ⟨h0, _⟩ | ⟨g', cap, cur, hv, _, hg, hc, _, hs, _⟩
  · cases h0
  · injection hv with h1 h2 h3
    have h1 := Option.some.inj h1
    injection h1 with h1
    subst h1
    exact ⟨cur, hg, by omega⟩
set_option maxRecDepth 100000 in
set_option maxHeartbeats 1000000 in
theorem spoil_any (g c n : Nat) (w : World) (h : Open8 w g n) (hm : n ≤ maxLen) :
    Calls Try.prog 40 #[.slice (some ⟨g, 0, none⟩) n c] w fun e w' => (∃ v, e = .returned v) ∧ Fr (· = g) w w' := by
  have H := Lib.hid h
  have hn0 : (0 : Int) ≤ (n : Int) := by omega
  have hn2 : (n : Int) ≤ 9223372036854775807 := by simp only [maxLen] at hm; omega
  clear h hm
  go_enter Try.func40, Try.ntmps40
  go_wp2
  go_loopg [2] n (fun k v2 wr => ∃ i : Nat, i + k = n ∧ v2 = .int .i64 i ∧ Open8 wr g n ∧ Fr (· = g) w wr)
  case atStart => exact ⟨0, by omega, rfl, H.out, Fr.refl _ _⟩
  case round =>
    obtain ⟨i, hgi, rfl, ho, hf⟩ := hrel
    have HO := Lib.hid ho
    have HF := Lib.hid hf
    have hi0 : (0 : Int) ≤ (i : Int) := by omega
    clear ho hf
    by_cases hi : i < n
    · have hi1 : (i : Int) < (n : Int) := by omega
      obtain ⟨⟨u, q0⟩, q1, q2⟩ := HO.out.cell i hi
      go_wp2
      go_roundg (n - (i + 1))
      case measure => omega
      case rel => exact ⟨i + 1, by omega, by go_num, HO.out.set _ _, HF.out.setCell (p := ⟨g, i, none⟩) (.inl rfl) _⟩
    · have hi1 : (n : Int) ≤ (i : Int) := by omega
      go_wp2
      exact bodyPost_end (v := .tuple #[]) (by simp [results, Try.results40, go_sem]) rfl ⟨⟨_, rfl⟩, HF.out⟩
end Go.Proofs.Ytegogggemmcgdaa
