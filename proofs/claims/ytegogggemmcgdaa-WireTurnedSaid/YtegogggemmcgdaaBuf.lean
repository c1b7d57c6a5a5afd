/- Rows of bytes of the call's own; strings as bytes. -/
import Derived.Test.YtegogggemmcgdaaBufP
import Derived.Test.YtegogggemmcgdaaOnceW
import Derived.Lib.AppendStr
import Derived.Deep.DeepAppendWide
import Derived.Laws.BytesArg
namespace Go.Proofs.Ytegogggemmcgdaa
open Go Go.RowKit Go.Proofs

def enc8 (l : Bs) : List Value := l.map fun b => .int .u8 (b.toNat : Int)
theorem enc8_length (l : Bs) : (enc8 l).length = l.length := List.length_map ..
theorem enc8_append (l k : Bs) : enc8 (l ++ k) = enc8 l ++ enc8 k := List.map_append
theorem enc8_one (l : Bs) : ∀ u ∈ enc8 l, u.oneCell' = true := by
  intro u hu
  simp only [enc8, List.mem_map] at hu
  obtain ⟨b, _, rfl⟩ := hu
  rfl
theorem enc8_get {l : Bs} {j : Nat} {b : UInt8} (h : l[j]? = some b) : (enc8 l)[j]? = some (.int .u8 (b.toNat : Int)) := by rw [enc8, List.getElem?_map, h]; rfl
theorem strCells_enc (s : ByteArray) : Go.Lib.strCells s = enc8 s.data.toList := rfl
/-- a list of bytes as a string -/
def strB (l : Bs) : ByteArray := ⟨l.toArray⟩
theorem strB_size (l : Bs) : (strB l).size = l.length := by simp [strB, ByteArray.size]
theorem strB_data (s : ByteArray) : strB s.data.toList = s := by cases s; simp [strB]
theorem strB_inj {l k : Bs} (h : strB l = strB k) : l = k := by
  unfold strB at h
  injection h with h
  simpa using h
theorem strB_list (l : Bs) : (strB l).toList = l := by
  simp [strB]
theorem str_nums (l : Bs) : strOfNums (l.map fun b => (b.toNat : Int)) = strB l := by
  unfold strOfNums strB
  congr 1
  rw [List.map_map]
  congr 1
  conv => rhs; rw [← List.map_id l]
  apply List.map_congr_left
  intro b _
  simp

abbrev Buf (w : World) (base : Nat) (v : Value) (l : Bs) : Prop := w.ownsRow base 5 1 v l.length (enc8 l)
/-- rows of bytes from base on -/
def U8 (base : Nat) (w : World) : Nat → Prop := fun k => base ≤ k ∧ ∃ cur fz, w.heap[k]? = some (.cells cur 5 fz)
section
variable {w w' w1 w2 : World} {base : Nat} {v : Value} {l : Bs}
theorem Buf.sl {A : Option Addr} {n c : Nat} (h : w.ownsRow base 5 1 (.slice A n c) n (enc8 l)) : Sl w 5 1 A n (enc8 l) := Sl.of_own h
theorem U8.step (h : Fr (U8 base w) w w1) (k : Nat) (hk : U8 base w1 k) : U8 base w k ∨ w.heap.size ≤ k := by
  rcases Nat.lt_or_ge k w.heap.size with hl | hl
  · by_cases hs : U8 base w k
    · exact .inl hs
    · obtain ⟨hb, cur, fz, hc⟩ := hk
      rw [h.block k hl hs] at hc
      exact .inl ⟨hb, cur, fz, hc⟩
  · exact .inr hl
theorem U8.trans (h : Fr (U8 base w) w w1) (h2 : Fr (U8 base w1) w1 w2) : Fr (U8 base w) w w2 := h.step h2 fun k hk => U8.step h k hk
theorem U8.grown (h : Fr (U8 base w) w w1) (ho : Buf w1 base v l) (hg : w1.grownBy w2 v.ownBlock) : Fr (U8 base w) w w2 :=
  h.grown hg fun k hk => by
    obtain ⟨cur, hc⟩ := row_type ho k hk
    exact U8.step h k ⟨(own_size ho k hk).1, cur, _, hc⟩
theorem U8.zero (h : Fr (U8 w.heap.size w) w w1) : Fr No w w1 := h.mono fun k hl hk => by have := hk.1; omega
theorem U8.since (h : Fr No w w1) (h2 : Fr (U8 w.heap.size w1) w1 w2) : Fr No w w2 := h.step h2 fun _ hi => .inr hi.1
theorem Blk.u8 {g : Nat} {t : TypeId} {cs : List Value} (h : Blk w g t cs) (hf : Fr (U8 base w) w w') (ht : t ≠ 5) : Blk w' g t cs := h.fr hf fun ⟨_, cur, fz, hc⟩ => by
  unfold Blk at h
  rw [h] at hc
  injection hc with hc
  injection hc with _ he
  exact ht he
theorem Sl.u8 {e : TypeId} {sz n : Nat} {A : Option Addr} {xs : List Value} (h : Sl w e sz A n xs) (hf : Fr (U8 base w) w w') (ht : e ≠ 5) : Sl w' e sz A n xs := h.fr hf fun b cur fr hb ⟨_, cur', fz, hc⟩ => by
  rw [hb] at hc
  injection hc with hc
  injection hc with _ he
  exact ht he
theorem buf_some {A : Option Addr} {n c : Nat} (h : w.ownsRow base 5 1 (.slice A n c) n (enc8 l)) (hn : 0 < n) : ∃ b, A = some ⟨b, 0, none⟩ := by
  rcases h.2 with ⟨_, h0⟩ | ⟨g, c, cur, hv, _⟩
  · omega
  · injection hv with h1 h2 h3
    exact ⟨g, h1⟩
theorem buf_ne {b n c g : Nat} {t : TypeId} {cs : List Value} (h : w.ownsRow base 5 1 (.slice (some ⟨b, 0, none⟩) n c) n (enc8 l)) (hB : Blk w g t cs) (ht : t ≠ 5) : g ≠ b := by
  rintro rfl
  obtain ⟨cur, hc⟩ := row_type h g rfl
  unfold Blk at hB
  rw [hB] at hc
  injection hc with hc
  injection hc with _ he
  exact ht he
/-- rows of bytes below base -/
theorem Sl.below {e : TypeId} {sz n b o : Nat} {xs : List Value} (h : Sl w e sz (some ⟨b, o, none⟩) n xs) (hf : Fr (U8 base w) w w') (hb : b < base) : Sl w' e sz (some ⟨b, o, none⟩) n xs := by
  refine ⟨h.1, fun hn => ?_⟩
  obtain ⟨b1, o1, cur, fr, e1, hb1, hx⟩ := h.2 hn
  injection e1 with e1
  injection e1 with e1 e2
  subst e1 e2
  exact ⟨b, o, cur, fr, rfl, (hf.block b (lt_of_heap hb1) (fun hk => by have := hk.1; omega)).trans hb1, hx⟩
end

theorem u8_info : (Try.prog.info? 5).map (fun i => (i.zero, i.size, i.bytes)) = some (some (.int .u8 0), 1, 1) := by kernel_rfl
theorem bytes_und : Try.prog.underlying 50 = some (.slice 5) := by kernel_rfl
theorem byte_und : Try.prog.underlying 5 = some (.int .u8) := by kernel_rfl
theorem strT_und : Try.prog.underlying 9 = some .string := by kernel_rfl

/-- append of bytes -/
theorem run_append_buf {w : World} {base : Nat} {v : Value} {l : Bs} (ty : TypeId) (hown : Buf w base v l) {A : Option Addr} {m c : Nat} {e2 : TypeId} {news : Bs} (hr : Sl w e2 1 A m (enc8 news))
    (hlen : l.length + m ≤ 200000000000000) (hbase : base ≤ w.heap.size) :
    ∃ v' w', (Builtin.append_ #[50, 50] ty #[v, .slice A m c]).run Try.prog w = .ok v' w' ∧ Buf w' base v' (l ++ news) ∧ w.grownBy w' v.ownBlock := by
  obtain ⟨i, hi, hz, hs, hb⟩ := info_parts u8_info
  have hm : news.length = m := by have := hr.1; rw [enc8_length] at this; omega
  rcases A with _ | ad
  · have h0 : m = 0 := by
      rcases Nat.eq_zero_or_pos m with h0 | h0
      · exact h0
      · obtain ⟨b, o, cur, fr, h, _⟩ := hr.2 h0
        cases h
    have hn : news = [] := List.eq_nil_of_length_eq_zero (hm.trans h0)
    subst h0 hn
    refine ⟨v, w, ?_, by simpa using hown, World.grownBy.refl w _⟩
    rcases hown.2 with ⟨rfl, _⟩ | ⟨g, cap, cur, rfl, _, _, hnc, _⟩
    · simp [Builtin.append_, run_underlying bytes_und, sizeOf, typeInfo, hi, Builtin.lenOf, Builtin.firstCells]
    · simp [Builtin.append_, run_underlying bytes_und, sizeOf, typeInfo, hi, Builtin.lenOf, Builtin.firstCells, hnc, storeCells]
  · have hcells : ∀ j u, (enc8 news)[j]? = some u → w.cell? (ad.add j) = some u := by
      intro j u hu
      rcases Nat.eq_zero_or_pos m with h0 | h0
      · have hn : news = [] := List.eq_nil_of_length_eq_zero (hm.trans h0)
        subst hn
        simp [enc8] at hu
      · obtain ⟨b, o, hA, _, hc, _⟩ := hr.cells h0
        have hA := Option.some.inj hA
        subst hA
        rw [add_off]
        exact hc j u hu
    obtain ⟨v', w', hrun, h2, h3, _⟩ := run_append_own_wide (P := Try.prog) w base 50 ty 5 i _ 1 1 bytes_und hi hz hs hb rfl (by omega) v l.length (enc8 l) hown ad m c (enc8 news)
      (by rw [enc8_length]; omega) hcells (enc8_one news) (by simp only [maxLen]; omega) (by omega) hbase
    refine ⟨v', w', hrun, ?_, h3⟩
    rw [Buf, enc8_append, List.length_append, hm]
    exact h2
/-- append of a string -/
theorem run_append_str {w : World} {base : Nat} {v : Value} {l : Bs} (ty : TypeId) (hown : Buf w base v l) (s : ByteArray)
    (hlen : l.length + s.size ≤ 200000000000000) (hbase : base ≤ w.heap.size) :
    ∃ v' w', (Builtin.append_ #[50, 9] ty #[v, .string s]).run Try.prog w = .ok v' w' ∧ Buf w' base v' (l ++ s.data.toList) ∧ w.grownBy w' v.ownBlock := by
  obtain ⟨i, hi, hz, hsz, hby⟩ := info_parts u8_info
  have hsl : s.data.toList.length = s.size := Array.length_toList
  have key : ∃ v' w', (Builtin.append_ #[50, 9] ty #[v, .string s]).run Try.prog w = .ok v' w' ∧ w'.ownsRow base 5 1 v' (l.length + s.size) (enc8 l ++ Go.Lib.strCells s) ∧ w.grownBy w' v.ownBlock := by
    by_cases hsm : l.length + s.size ≤ 140737488355328
    · obtain ⟨v', w', hrun, h2, h3, _⟩ := Go.Lib.run_append_own_string (P := Try.prog) w base 50 9 ty 5 i bytes_und strT_und hi hz hsz hby v l.length (enc8 l) hown s (by simp only [maxLen]; omega) hsm hbase
      exact ⟨v', w', hrun, h2, h3⟩
    · have hxl := enc8_length l
      have hlen2 : (enc8 l ++ Go.Lib.strCells s).length = (l.length + s.size) * 1 := by rw [List.length_append, hxl, Go.Lib.strCells_length, Nat.mul_one]
      have grown : ∀ (old : Nat), old < l.length + s.size → ∀ (row : Option Nat),
          (w.drew.alloc (.cells ((enc8 l).toArray ++ (Go.Lib.strCells s).toArray ++ Builtin.zeroCells (Value.int .u8 0).cells (grownCap w (l.length + s.size) old 5 - (l.length + s.size))) 5)).ownsRow base 5 1
            (.slice (some ⟨w.heap.size, 0, none⟩) (l.length + s.size) (grownCap w (l.length + s.size) old 5)) (l.length + s.size) (enc8 l ++ Go.Lib.strCells s) ∧
          w.grownBy (w.drew.alloc (.cells ((enc8 l).toArray ++ (Go.Lib.strCells s).toArray ++ Builtin.zeroCells (Value.int .u8 0).cells (grownCap w (l.length + s.size) old 5 - (l.length + s.size))) 5)) row := by
        intro old ho row
        have hge := grownCap_ge w (l.length + s.size) old 5
        have hcm : grownCap w (l.length + s.size) old 5 ≤ maxLen := grownCap_le_maxLen w (l.length + s.size) old 5 (by simp only [maxLen]; omega)
        refine ⟨⟨hlen2, .inr ⟨w.heap.size, _, _, rfl, hbase, heap_alloc_new w.drew _, hge, hcm, ?_, ?_⟩⟩, ⟨rfl, rfl, rfl, by simp, fun k hk _ => Below.heap_alloc w.drew _ k hk⟩⟩
        · have hz1 : (Value.int IntKind.u8 0).cells.size = 1 := rfl
          simp only [Array.size_append, List.size_toArray, size_zeroCells, hz1, hxl, Go.Lib.strCells_length]
          omega
        · simp only [Array.toList_append, List.append_assoc]
          rw [← List.append_assoc, ← hlen2]
          exact List.take_left
      rcases hown.2 with ⟨rfl, h0⟩ | ⟨g, cap, cur, rfl, hbg, hg, hnc, hcm, hcs, htake⟩
      · have hl0 : l = [] := List.eq_nil_of_length_eq_zero h0
        subst hl0
        simp only [List.length_nil, Nat.zero_add] at hsm hlen
        have hr := run_append_nil_string (P := Try.prog) w 50 9 ty 5 i (.int .u8 0) bytes_und strT_und hi hz s (by omega) (by omega) (by rw [hby]; omega)
        have hgr := grown 0 (by simp only [List.length_nil]; omega) (Value.ownBlock (.slice none 0 0))
        simp only [List.length_nil, Nat.zero_add, enc8, List.map_nil, List.nil_append, Array.empty_append] at hgr ⊢
        have e1 : (s.data.map fun b => Value.int .u8 b.toNat) = (Go.Lib.strCells s).toArray := by
          apply Array.ext'
          simp [Go.Lib.strCells]
        rw [e1] at hr
        exact ⟨_, _, hr, hgr.1, hgr.2⟩
      · by_cases hroom : l.length + s.size ≤ cap
        · have hcs' : cur.size = cap := by simpa using hcs
          have hr := Go.Lib.run_append_room_string (P := Try.prog) w 50 9 ty 5 i bytes_und strT_und hi hsz g l.length cap cur hg s hroom (by omega)
          refine ⟨_, _, hr, ⟨hlen2, .inr ⟨g, cap, _, rfl, hbg, setRow_heap w g cur _ _ _ hg, hroom, hcm, ?_, ?_⟩⟩, ⟨rfl, rfl, rfl, by simp, fun k _ hk => setRow_other w g k _ (fun e => hk (by simp [Value.ownBlock, e]))⟩⟩
          · simp only [List.size_toArray, List.length_append, List.length_take, List.length_drop, Array.length_toList, Go.Lib.strCells_length]
            omega
          · have ht' : cur.toList.take l.length = enc8 l := by simpa using htake
            rw [ht', ← hlen2]
            exact List.take_left
        · have holds : ∀ j u, (enc8 l)[j]? = some u → w.cell? ((⟨g, 0, none⟩ : Addr).add j) = some u := World.ownsRow.cells hown (g := g) rfl
          have hr := Go.Lib.run_append_grow_string (P := Try.prog) w 50 9 ty 5 i (.int .u8 0) bytes_und strT_und hi hz ⟨g, 0, none⟩ l.length cap (enc8 l) (by rw [hsz]; simpa using hxl) holds s (by omega) (by omega) (by rw [hby]; exact growslice_fits_wide (by omega) (by omega))
          have hgr := grown cap (by omega) (Value.ownBlock (.slice (some ⟨g, 0, none⟩) l.length cap))
          exact ⟨_, _, hr, hgr.1, hgr.2⟩
  obtain ⟨v', w', hrun, h2, h3⟩ := key
  refine ⟨v', w', hrun, ?_, h3⟩
  rw [Buf, enc8_append, List.length_append, hsl, ← strCells_enc]
  exact h2

/-! ### the operations, for the walk -/
section
variable {ops : Array Oper} {rest : List Oper} {o : Oper} {a : Act} {w : World} {Q : Exit → Act → World → Prop}
theorem wp_buf_append {K : Act → World → Prop} (s x : Operand)
    (ho : o.op = .call { callee := .builtin .append, args := #[s, x], argTypes := #[50, 50] })
    (base : Nat) (v : Value) (l : Bs) (hs : a.eval s = v) (hown : Buf w base v l) (A : Option Addr) (m c : Nat) (e2 : TypeId) (news : Bs) (hx : a.eval x = .slice A m c) (hr : Sl w e2 1 A m (enc8 news))
    (hlen : l.length + m ≤ 200000000000000) (hbase : base ≤ w.heap.size)
    (h : ∀ v' w', Buf w' base v' (l ++ news) → w.grownBy w' v.ownBlock → K (a.put o.dst v') w') : o.wp Try.prog a w K Q := by
  obtain ⟨v', w', hrun, h2, h3⟩ := run_append_buf o.type hown (c := c) hr hlen hbase
  unfold Oper.wp execOp
  simp only [ho, resolve, invoke, builtin, Sem.run_bind, Sem.run_pure, Result.andThen_ok, List.map_toArray, List.map_cons, List.map_nil, hs, hx, hrun]
  exact h v' w' h2 h3
theorem wpList_buf_append (hgd : o.guard = none) (s x : Operand)
    (ho : o.op = .call { callee := .builtin .append, args := #[s, x], argTypes := #[50, 50] })
    (base : Nat) (v : Value) (l : Bs) (hs : a.eval s = v) (hown : Buf w base v l) (A : Option Addr) (m c : Nat) (e2 : TypeId) (news : Bs) (hx : a.eval x = .slice A m c) (hr : Sl w e2 1 A m (enc8 news))
    (hlen : l.length + m ≤ 200000000000000) (hbase : base ≤ w.heap.size)
    (h : ∀ v' w', Buf w' base v' (l ++ news) → w.grownBy w' v.ownBlock → wpList Try.prog ops Q rest (a.put o.dst v') w') : wpList Try.prog ops Q (o :: rest) a w :=
  wpList_plain hgd fun _ hK => wp_buf_append s x ho base v l hs hown A m c e2 news hx hr hlen hbase fun v' w' h2 h3 => hK _ _ (h v' w' h2 h3)
theorem step_buf_append {E : Prop} {K : Act → World → Prop} (hgd : o.guard = none) (s x : Operand)
    (ho : o.op = .call { callee := .builtin .append, args := #[s, x], argTypes := #[50, 50] })
    (base : Nat) (v : Value) (l : Bs) (hs : a.eval s = v) (hown : Buf w base v l) (A : Option Addr) (m c : Nat) (e2 : TypeId) (news : Bs) (hx : a.eval x = .slice A m c) (hr : Sl w e2 1 A m (enc8 news))
    (hlen : l.length + m ≤ 200000000000000) (hbase : base ≤ w.heap.size)
    (h : ∀ v' w', Buf w' base v' (l ++ news) → w.grownBy w' v.ownBlock → K (a.put o.dst v') w') : if Region.wanted o (yielded ops a.tmps) = true then Oper.wp Try.prog o a w K Q else E := by
  rw [if_pos (by simp [Region.wanted, hgd])]
  exact wp_buf_append s x ho base v l hs hown A m c e2 news hx hr hlen hbase h
theorem wp_str_append {K : Act → World → Prop} (s x : Operand)
    (ho : o.op = .call { callee := .builtin .append, args := #[s, x], argTypes := #[50, 9] })
    (base : Nat) (v : Value) (l : Bs) (hs : a.eval s = v) (hown : Buf w base v l) (t : ByteArray) (hx : a.eval x = .string t)
    (hlen : l.length + t.size ≤ 200000000000000) (hbase : base ≤ w.heap.size)
    (h : ∀ v' w', Buf w' base v' (l ++ t.data.toList) → w.grownBy w' v.ownBlock → K (a.put o.dst v') w') : o.wp Try.prog a w K Q := by
  obtain ⟨v', w', hrun, h2, h3⟩ := run_append_str o.type hown t hlen hbase
  unfold Oper.wp execOp
  simp only [ho, resolve, invoke, builtin, Sem.run_bind, Sem.run_pure, Result.andThen_ok, List.map_toArray, List.map_cons, List.map_nil, hs, hx, hrun]
  exact h v' w' h2 h3
theorem step_str_append {E : Prop} {K : Act → World → Prop} (hgd : o.guard = none) (s x : Operand)
    (ho : o.op = .call { callee := .builtin .append, args := #[s, x], argTypes := #[50, 9] })
    (base : Nat) (v : Value) (l : Bs) (hs : a.eval s = v) (hown : Buf w base v l) (t : ByteArray) (hx : a.eval x = .string t)
    (hlen : l.length + t.size ≤ 200000000000000) (hbase : base ≤ w.heap.size)
    (h : ∀ v' w', Buf w' base v' (l ++ t.data.toList) → w.grownBy w' v.ownBlock → K (a.put o.dst v') w') : if Region.wanted o (yielded ops a.tmps) = true then Oper.wp Try.prog o a w K Q else E := by
  rw [if_pos (by simp [Region.wanted, hgd])]
  exact wp_str_append s x ho base v l hs hown t hx hlen hbase h
theorem wpList_str_append (hgd : o.guard = none) (s x : Operand)
    (ho : o.op = .call { callee := .builtin .append, args := #[s, x], argTypes := #[50, 9] })
    (base : Nat) (v : Value) (l : Bs) (hs : a.eval s = v) (hown : Buf w base v l) (t : ByteArray) (hx : a.eval x = .string t)
    (hlen : l.length + t.size ≤ 200000000000000) (hbase : base ≤ w.heap.size)
    (h : ∀ v' w', Buf w' base v' (l ++ t.data.toList) → w.grownBy w' v.ownBlock → wpList Try.prog ops Q rest (a.put o.dst v') w') : wpList Try.prog ops Q (o :: rest) a w :=
  wpList_plain hgd fun _ hK => wp_str_append s x ho base v l hs hown t hx hlen hbase fun v' w' h2 h3 => hK _ _ (h v' w' h2 h3)
end

/-- a slice of bytes as a string -/
theorem run_str {w : World} {A : Option Addr} {c : Nat} {e : TypeId} {l : Bs} (h : Sl w e 1 A l.length (enc8 l)) : (convert 50 9 (.slice A l.length c)).run Try.prog w = .ok (.string (strB l)) w := by
  rcases A with _ | ad
  · have h0 : l.length = 0 := by
      rcases Nat.eq_zero_or_pos l.length with h0 | h0
      · exact h0
      · obtain ⟨b, o, cur, fr, h, _⟩ := h.2 h0
        cases h
    have hl := List.eq_nil_of_length_eq_zero h0
    subst hl
    exact run_convert_bytes_nil w 50 5 bytes_und byte_und _ c 9 strT_und
  · rcases Nat.eq_zero_or_pos l.length with h0 | h0
    · have hl := List.eq_nil_of_length_eq_zero h0
      subst hl
      rw [run_convert_bytes_string w 50 9 5 _ _ c bytes_und byte_und strT_und, run_bytesToString w ad _ c [] (by kernel_rfl)]
      rfl
    · obtain ⟨b, o, rfl', hb, hc, _⟩ := h.cells h0
      have e := Option.some.inj rfl'
      subst e
      rw [run_convert_bytes_arg w 50 5 bytes_und byte_und b o l.length c (l.map fun b => (b.toNat : Int)) (by simp) (fun i hi => ?_) 9 strT_und, str_nums]
      have h1 : l[i]? = some l[i] := List.getElem?_eq_getElem hi
      rw [hc i _ (enc8_get h1), List.getD_eq_getElem?_getD, List.getElem?_map, h1]
      rfl
/-- a row of one byte -/
theorem sl_byte (w : World) (x : Nat) : Sl (w.alloc (Obj.cells #[.int .u8 ((x : Int) % 256)] 5)) 5 1 (some ⟨w.heap.size, 0, none⟩) 1 (enc8 [UInt8.ofNat x]) := by
  have e : enc8 [UInt8.ofNat x] = [.int .u8 ((x : Int) % 256)] := by
    have : (UInt8.ofNat x).toNat = x % 256 := UInt8.toNat_ofNat'
    simp [enc8, this]
  rw [e]
  exact Sl.of_new w 5 1 1 #[.int .u8 ((x : Int) % 256)] _ rfl rfl
end Go.Proofs.Ytegogggemmcgdaa
