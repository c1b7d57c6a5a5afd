import Derived.Test.YtegogggemmcgdaaCG3
import Derived.Laws.StructEq
set_option linter.unusedVariables false
set_option linter.unusedSimpArgs false
/- the law's given and taken: states copied. -/
namespace Go.Proofs.Ytegogggemmcgdaa
open Go Go.RowKit Go.Proofs

theorem own_other {w w' : World} {base base2 n n2 size size2 : Nat} {e e2 : TypeId} {v v2 : Value} {xs xs2 : List Value} (h : w.ownsRow base e size v n xs) (h2 : w.ownsRow base2 e2 size2 v2 n2 xs2) (he : e ≠ e2) (hg : w.grownBy w' v2.ownBlock) : w'.ownsRow base e size v n xs :=
  own_fr h (Fr.of_grown hg) (fun k hk hS => by
    obtain ⟨c1, h1⟩ := row_type h k hk
    obtain ⟨c2, h2⟩ := row_type h2 k hS.symm
    rw [h1] at h2
    injection h2 with h2
    injection h2 with _ h2
    exact he h2)
/-- how long the lists may be -/
structure StLen (x : StS) : Prop where
  jobs : x.jobs.length * 72 ≤ 140737488355328
  conds : x.conds.length * 24 ≤ 140737488355328
  res : x.res.length * 32 ≤ 140737488355328
  held : x.held.length * 40 ≤ 140737488355328
/-- types that differ -/
structure Tys (ts td t0 t1 t2 t3 : TypeId) : Prop where
  sd : ts ≠ td
  s0 : ts ≠ t0
  s1 : ts ≠ t1
  s2 : ts ≠ t2
  s3 : ts ≠ t3
  d0 : td ≠ t0
  d1 : td ≠ t1
  d2 : td ≠ t2
  d3 : td ≠ t3
  e01 : t0 ≠ t1
  e02 : t0 ≠ t2
  e03 : t0 ≠ t3
  e12 : t1 ≠ t2
  e13 : t1 ≠ t3
  e23 : t2 ≠ t3
/-- a state that is being copied -/
structure Cp (w0 : World) (ts td t0 t1 t2 t3 : TypeId) (G1 G2 G3 : Nat) (sc D : List Value) (v0 v1 v2 v3 : Value) (l0 : List JSt) (l1 : List CondS) (l2 : List ResS) (l3 : List HeldS) (w : World) : Prop where
  r0 : w.ownsRow w0.heap.size t0 10 v0 l0.length (l0.flatMap JSt.vals)
  r1 : w.ownsRow w0.heap.size t1 2 v1 l1.length (l1.flatMap CondS.vals)
  r2 : w.ownsRow w0.heap.size t2 3 v2 l2.length (l2.flatMap ResS.vals)
  r3 : w.ownsRow w0.heap.size t3 4 v3 l3.length (l3.flatMap HeldS.vals)
  src : Blk w G1 ts sc
  dst : Blk w G3 td D
  out : Blk w G2 td zeroSt
  fr : Fr No w0 w
  g3 : w0.heap.size ≤ G3
  ne : G2 ≠ G3
section
variable {w0 w w' : World} {ts td t0 t1 t2 t3 : TypeId} {G1 G2 G3 : Nat} {sc D : List Value} {v0 v1 v2 v3 : Value} {l0 : List JSt} {l1 : List CondS} {l2 : List ResS} {l3 : List HeldS}
theorem Cp.fr0 (h : Cp w0 ts td t0 t1 t2 t3 G1 G2 G3 sc D v0 v1 v2 v3 l0 l1 l2 l3 w) (hf : Fr No w w') : Cp w0 ts td t0 t1 t2 t3 G1 G2 G3 sc D v0 v1 v2 v3 l0 l1 l2 l3 w' :=
  ⟨own_fr0 h.r0 hf, own_fr0 h.r1 hf, own_fr0 h.r2 hf, own_fr0 h.r3 hf, h.src.fr hf (fun h => h), h.dst.fr hf (fun h => h), h.out.fr hf (fun h => h), h.fr.trans hf, h.g3, h.ne⟩
theorem Cp.put (h : Cp w0 ts td t0 t1 t2 t3 G1 G2 G3 sc D v0 v1 v2 v3 l0 l1 l2 l3 w) (ht : Tys ts td t0 t1 t2 t3) (i : Nat) (u : Value) : Cp w0 ts td t0 t1 t2 t3 G1 G2 G3 sc (D.set i u) v0 v1 v2 v3 l0 l1 l2 l3 (w.setCell ⟨G3, i, none⟩ u) := by
  have hf : Fr (fun k => k = G3) w (w.setCell ⟨G3, i, none⟩ u) := (Fr.refl (fun k => k = G3) w).setCell (p := ⟨G3, i, none⟩) (.inl rfl) u
  exact ⟨own_fr h.r0 hf (fun k hk e => own_far h.r0 h.dst ht.d0 k hk e), own_fr h.r1 hf (fun k hk e => own_far h.r1 h.dst ht.d1 k hk e), own_fr h.r2 hf (fun k hk e => own_far h.r2 h.dst ht.d2 k hk e), own_fr h.r3 hf (fun k hk e => own_far h.r3 h.dst ht.d3 k hk e),
    h.src.far (p := ⟨G3, i, none⟩) (h.src.ne_ h.dst ht.sd) u, h.dst.set_ i u, h.out.far (p := ⟨G3, i, none⟩) h.ne u, h.fr.setCell (p := ⟨G3, i, none⟩) (.inr h.g3) u, h.g3, h.ne⟩
theorem Cp.grow0 {u0 : Value} {y : JSt} (h : Cp w0 ts td t0 t1 t2 t3 G1 G2 G3 sc D v0 v1 v2 v3 l0 l1 l2 l3 w) (ht : Tys ts td t0 t1 t2 t3) (ho : w'.ownsRow w0.heap.size t0 10 u0 (l0.length + 1) (l0.flatMap JSt.vals ++ y.vals)) (hg : w.grownBy w' v0.ownBlock) :
    Cp w0 ts td t0 t1 t2 t3 G1 G2 G3 sc D u0 v1 v2 v3 (l0 ++ [y]) l1 l2 l3 w' := by
  refine ⟨?_, own_other h.r1 h.r0 ht.e01.symm hg, own_other h.r2 h.r0 ht.e02.symm hg, own_other h.r3 h.r0 ht.e03.symm hg, h.src.grown hg (fun k hk => own_far h.r0 h.src ht.s0 k hk), h.dst.grown hg (fun k hk => own_far h.r0 h.dst ht.d0 k hk), h.out.grown hg (fun k hk => own_far h.r0 h.out ht.d0 k hk), h.fr.grown hg (fun k hk => .inr (own_size h.r0 k hk).1), h.g3, h.ne⟩
  simpa using ho
theorem Cp.all1 {u1 : Value} {l : List CondS} (h : Cp w0 ts td t0 t1 t2 t3 G1 G2 G3 sc D v0 v1 v2 v3 l0 l1 l2 l3 w) (ht : Tys ts td t0 t1 t2 t3) (ho : w'.ownsRow w0.heap.size t1 2 u1 l.length (l.flatMap CondS.vals)) (hg : w.grownBy w' v1.ownBlock) :
    Cp w0 ts td t0 t1 t2 t3 G1 G2 G3 sc D v0 u1 v2 v3 l0 l l2 l3 w' :=
  ⟨own_other h.r0 h.r1 ht.e01 hg, ho, own_other h.r2 h.r1 ht.e12.symm hg, own_other h.r3 h.r1 ht.e13.symm hg, h.src.grown hg (fun k hk => own_far h.r1 h.src ht.s1 k hk), h.dst.grown hg (fun k hk => own_far h.r1 h.dst ht.d1 k hk), h.out.grown hg (fun k hk => own_far h.r1 h.out ht.d1 k hk), h.fr.grown hg (fun k hk => .inr (own_size h.r1 k hk).1), h.g3, h.ne⟩
theorem Cp.grow2 {u2 : Value} {y : ResS} (h : Cp w0 ts td t0 t1 t2 t3 G1 G2 G3 sc D v0 v1 v2 v3 l0 l1 l2 l3 w) (ht : Tys ts td t0 t1 t2 t3) (ho : w'.ownsRow w0.heap.size t2 3 u2 (l2.length + 1) (l2.flatMap ResS.vals ++ y.vals)) (hg : w.grownBy w' v2.ownBlock) :
    Cp w0 ts td t0 t1 t2 t3 G1 G2 G3 sc D v0 v1 u2 v3 l0 l1 (l2 ++ [y]) l3 w' := by
  refine ⟨own_other h.r0 h.r2 ht.e02 hg, own_other h.r1 h.r2 ht.e12 hg, ?_, own_other h.r3 h.r2 ht.e23.symm hg, h.src.grown hg (fun k hk => own_far h.r2 h.src ht.s2 k hk), h.dst.grown hg (fun k hk => own_far h.r2 h.dst ht.d2 k hk), h.out.grown hg (fun k hk => own_far h.r2 h.out ht.d2 k hk), h.fr.grown hg (fun k hk => .inr (own_size h.r2 k hk).1), h.g3, h.ne⟩
  simpa using ho
theorem Cp.grow3 {u3 : Value} {y : HeldS} (h : Cp w0 ts td t0 t1 t2 t3 G1 G2 G3 sc D v0 v1 v2 v3 l0 l1 l2 l3 w) (ht : Tys ts td t0 t1 t2 t3) (ho : w'.ownsRow w0.heap.size t3 4 u3 (l3.length + 1) (l3.flatMap HeldS.vals ++ y.vals)) (hg : w.grownBy w' v3.ownBlock) :
    Cp w0 ts td t0 t1 t2 t3 G1 G2 G3 sc D v0 v1 v2 u3 l0 l1 l2 (l3 ++ [y]) w' := by
  refine ⟨own_other h.r0 h.r3 ht.e03 hg, own_other h.r1 h.r3 ht.e13 hg, own_other h.r2 h.r3 ht.e23 hg, ?_, h.src.grown hg (fun k hk => own_far h.r3 h.src ht.s3 k hk), h.dst.grown hg (fun k hk => own_far h.r3 h.dst ht.d3 k hk), h.out.grown hg (fun k hk => own_far h.r3 h.out ht.d3 k hk), h.fr.grown hg (fun k hk => .inr (own_size h.r3 k hk).1), h.g3, h.ne⟩
  simpa using ho
end
abbrev StS.nums (x : StS) (v0 v1 v2 v3 : Value) : List Value := [.int .i64 x.clock, .int .i64 x.day, .int .i64 x.id, .int .i64 x.run, v0, v1, v2, v3]
abbrev nilV : Value := .slice none 0 0
def Cp0 (w0 : World) (x : StS) (ts td t0 t1 t2 t3 : TypeId) (G1 G2 G3 : Nat) (sc : List Value) (g : Nat) (v4 : Value) (wr : World) : Prop :=
  ∃ (i : Nat) (v0 : Value), i + g = x.jobs.length ∧ v4 = .int .i64 i ∧ Cp w0 ts td t0 t1 t2 t3 G1 G2 G3 sc (x.nums v0 nilV nilV nilV) v0 nilV nilV nilV (x.jobs.take i) [] [] [] wr
def Cp2 (w0 : World) (x : StS) (ts td t0 t1 t2 t3 : TypeId) (G1 G2 G3 : Nat) (sc : List Value) (v0 v1 : Value) (g : Nat) (v6 : Value) (wr : World) : Prop :=
  ∃ (i : Nat) (v2 : Value), i + g = x.res.length ∧ v6 = .int .i64 i ∧ Cp w0 ts td t0 t1 t2 t3 G1 G2 G3 sc (x.nums v0 v1 v2 nilV) v0 v1 v2 nilV x.jobs x.conds (x.res.take i) [] wr
def Cp3 (w0 : World) (x : StS) (ts td t0 t1 t2 t3 : TypeId) (G1 G2 G3 : Nat) (sc : List Value) (v0 v1 v2 : Value) (g : Nat) (v7 : Value) (wr : World) : Prop :=
  ∃ (i : Nat) (v3 : Value), i + g = x.held.length ∧ v7 = .int .i64 i ∧ Cp w0 ts td t0 t1 t2 t3 G1 G2 G3 sc (x.nums v0 v1 v2 v3) v0 v1 v2 v3 x.jobs x.conds x.res (x.held.take i) wr
theorem vals_oneJ (l : List JSt) : ∀ u ∈ l.flatMap JSt.vals, u.oneCell' = true := by
  intro u hu
  obtain ⟨x, _, hx⟩ := List.mem_flatMap.1 hu
  exact List.all_eq_true.1 (show (JSt.vals x).all Value.oneCell' = true from rfl) u hx
theorem vals_oneC (l : List CondS) : ∀ u ∈ l.flatMap CondS.vals, u.oneCell' = true := by
  intro u hu
  obtain ⟨x, _, hx⟩ := List.mem_flatMap.1 hu
  exact List.all_eq_true.1 (show (CondS.vals x).all Value.oneCell' = true from rfl) u hx
theorem given_st_res {tmps : Array Value} {w : World} {g : Nat} {x : StS} {A0 A1 A2 A3 : Option Addr} {c0 c1 c2 c3 : Nat} (h : Blk w g 67 (x.cells A0 A1 A2 A3 c0 c1 c2 c3)) (h4 : tmps.getD 2 undef = .pointer (some ⟨g, 0, none⟩)) :
    (results Try.f30 tmps).run Try.prog w = .ok (x.agg A0 A1 A2 A3 c0 c1 c2 c3) w := by
  obtain ⟨r0, r1, r2, r3, r4, r5, r6, r7⟩ := h.cells8
  simp only [Array.getD_eq_getD_getElem?] at h4
  simp [results, Try.results30, go_sem, h4, r0, r1, r2, r3, r4, r5, r6, r7]
theorem given_st_tys : Tys 62 67 119 131 122 125 := ⟨by decide, by decide, by decide, by decide, by decide, by decide, by decide, by decide, by decide, by decide, by decide, by decide, by decide, by decide, by decide⟩
set_option maxRecDepth 100000 in
set_option maxHeartbeats 4000000 in
theorem given_st (x : StS) (A0 A1 A2 A3 : Option Addr) (c0 c1 c2 c3 : Nat) (f0 f1 f2 f3 : TypeId) (w : World) (hS : StSl w x A0 A1 A2 A3 f0 f1 f2 f3) (hL : StLen x) :
    Calls Try.prog 30 #[x.agg A0 A1 A2 A3 c0 c1 c2 c3] w fun e w' => ∃ B0 B1 B2 B3 d0 d1 d2 d3, e = .returned (x.agg B0 B1 B2 B3 d0 d1 d2 d3) ∧ StSl w' x B0 B1 B2 B3 119 131 122 125 ∧ Fr No w w' := by
  have HS := Lib.hid hS
  have HL := Lib.hid hL
  have HT := Lib.hid given_st_tys
  have hj0 : (0 : Int) ≤ (x.jobs.length : Int) := by omega
  have hj1 : (x.jobs.length : Int) ≤ 9223372036854775807 := by have := hL.jobs; omega
  have hr0 : (0 : Int) ≤ (x.res.length : Int) := by omega
  have hr1 : (x.res.length : Int) ≤ 9223372036854775807 := by have := hL.res; omega
  have hh0 : (0 : Int) ≤ (x.held.length : Int) := by omega
  have hh1 : (x.held.length : Int) ≤ 9223372036854775807 := by have := hL.held; omega
  obtain ⟨i0, hi0, hz0, hzs0, hy0⟩ := info_parts (show (Try.prog.info? 119).map (fun i => (i.zero, i.size, i.bytes)) = some (some (.agg #[.int .i64 0, .int .i64 0, .int .i64 0, .int .i64 0, .bool false, .bool false, .int .i64 0, .int .i64 0, .int .i64 0, .int .i64 0]), 10, 72) by kernel_rfl)
  obtain ⟨i1, hi1, hz1, hzs1, hy1⟩ := info_parts (show (Try.prog.info? 131).map (fun i => (i.zero, i.size, i.bytes)) = some (some (.agg #[.string ByteArray.empty, .int .i64 0]), 2, 24) by kernel_rfl)
  obtain ⟨i2, hi2, hz2, hzs2, hy2⟩ := info_parts (show (Try.prog.info? 122).map (fun i => (i.zero, i.size, i.bytes)) = some (some (.agg #[.string ByteArray.empty, .int .i64 0, .bool false]), 3, 32) by kernel_rfl)
  obtain ⟨i3, hi3, hz3, hzs3, hy3⟩ := info_parts (show (Try.prog.info? 125).map (fun i => (i.zero, i.size, i.bytes)) = some (some (.agg #[.int .i64 0, .string ByteArray.empty, .int .i64 0, .int .i64 0]), 4, 40) by kernel_rfl)
  clear hS hL
  obtain ⟨sc, hsc⟩ : ∃ sc, sc = x.cells A0 A1 A2 A3 c0 c1 c2 c3 := ⟨_, rfl⟩
  have HC : Hid (Cp w 62 67 119 131 122 125 w.heap.size (w.heap.size + 1) (w.heap.size + 2) (x.cells A0 A1 A2 A3 c0 c1 c2 c3) (x.nums nilV nilV nilV nilV) nilV nilV nilV nilV [] [] [] [] (((w.alloc (Obj.cells (x.cells A0 A1 A2 A3 c0 c1 c2 c3).toArray 62)).alloc (Obj.cells (zeroSt).toArray 67)).alloc (Obj.cells (x.nums nilV nilV nilV nilV).toArray 67))) := Lib.hid (by
    have b2 := Blk.new (w.alloc (Obj.cells (x.cells A0 A1 A2 A3 c0 c1 c2 c3).toArray 62)) 67 zeroSt
    have b3 := Blk.new ((w.alloc (Obj.cells (x.cells A0 A1 A2 A3 c0 c1 c2 c3).toArray 62)).alloc (Obj.cells (zeroSt).toArray 67)) 67 (x.nums nilV nilV nilV nilV)
    simp only [World.size_alloc] at b2 b3
    exact ⟨World.ownsRow_nil _ _ _ _, World.ownsRow_nil _ _ _ _, World.ownsRow_nil _ _ _ _, World.ownsRow_nil _ _ _ _, ((Blk.new w 62 (x.cells A0 A1 A2 A3 c0 c1 c2 c3)).alloc _).alloc _, b3, b2.alloc _, (((Fr.refl No w).alloc _).alloc _).alloc _, by omega, by omega⟩)
  clear hsc
  go_enter Try.func30, Try.ntmps30
  go_wp2
  go_loopg [4] x.jobs.length (fun g v4 wr => Cp0 w x 62 67 119 131 122 125 w.heap.size (w.heap.size + 1) (w.heap.size + 2) (x.cells A0 A1 A2 A3 c0 c1 c2 c3) g v4 wr)
  case atStart => exact ⟨0, nilV, by omega, rfl, HC.out⟩
  case round =>
    clear HC
    obtain ⟨i, v0, hgi, rfl, hcp⟩ := hrel
    have HC := Lib.hid hcp
    clear hcp
    have hn0 : (0 : Int) ≤ (i : Int) := by omega
    obtain ⟨d0, d1, d2, d3, d4, d5, d6, d7⟩ := HC.out.dst.cells8
    have d8 := HC.out.dst.lt
    have d9 := HC.out.dst.frozens
    have e4 := HC.out.src.cell 4
    have e5 := HC.out.src.cell 5
    have e6 := HC.out.src.cell 6
    have e7 := HC.out.src.cell 7
    have e8 := HC.out.src.lt
    simp only [List.getElem?_cons_zero, List.getElem?_cons_succ] at e4 e5 e6 e7
    by_cases hlt : i < x.jobs.length
    · have hn1 : (i : Int) < (x.jobs.length : Int) := by omega
      obtain ⟨y, hy⟩ : ∃ y, x.jobs[i]? = some y := ⟨_, List.getElem?_eq_getElem hlt⟩
      obtain ⟨ga, oa, rfl, hga, k0, k1, k2, k3, k4, k5, k6, k7, k8, k9⟩ := job_at (HS.out.jobs.fr0 HC.out.fr) hy
      have HX := Lib.hid (show x.jobs.take (i + 1) = x.jobs.take i ++ [y] by rw [List.take_add_one, hy]; rfl)
      have HXL := Lib.hid (show (x.jobs.take i).length = i by rw [List.length_take]; omega)
      obtain ⟨l0, hl0⟩ : ∃ l0, l0 = x.jobs.take i := ⟨_, rfl⟩
      rw [← hl0] at HC HX HXL
      clear hy hl0
      obtain ⟨A, cA, rfl, _⟩ := own_shape HC.out.r0
      have HC2 := Lib.hid ((HC.out.fr0 ((Fr.refl No wr).alloc (Obj.cells y.vals.toArray 118))).fr0 ((Fr.refl No _).alloc (Obj.cells y.vals.toArray 119)))
      have HN2 : Hid (Sl ((wr.alloc (Obj.cells y.vals.toArray 118)).alloc (Obj.cells y.vals.toArray 119)) 119 10 (some ⟨wr.heap.size + 1, 0, none⟩) 1 y.vals) := Lib.hid (by have hsl := Sl.of_new (wr.alloc (Obj.cells y.vals.toArray 118)) 119 10 1 y.vals.toArray y.vals rfl rfl; simpa only [World.size_alloc] using hsl)
      go_wp2_with (at_builtin; go_loud (refine wpList_append_owned' (by rfl) (.tmp 30) (.tmp 52) 63 (by rfl) w.heap.size 119 i0 _ 10 72 Try.underlying63 hi0 hz0 hzs0 hy0 rfl (by omega) (.slice A l0.length cA) l0.length (l0.flatMap JSt.vals) (by rfl) HC2.out.r0 (some ⟨wr.heap.size + 1, 0, none⟩) 1 1 119 y.vals (by rfl) HN2.out (List.all_eq_true.1 (by rfl)) (by have := HXL.out; have := HL.out.jobs; simp only [maxLen]; omega) (by have := HXL.out; have := HL.out.jobs; omega) HC2.out.fr.size ?_); intro v4 w4 ho hg hat; have HC4 := Lib.hid (HC2.out.grow0 HT.out ho hg); obtain ⟨A4, c4, rfl, _⟩ := own_shape ho; clear ho hg hat d0 d1 d2 d3 d4 d5 d6 d7 d8 d9 e4 e5 e6 e7 e8 k0 k1 k2 k3 k4 k5 k6 k7 k8 k9 hga; obtain ⟨d0, d1, d2, d3, d4, d5, d6, d7⟩ := HC4.out.dst.cells8; have d8 := HC4.out.dst.lt; have d9 := HC4.out.dst.frozens)
      go_roundg (x.jobs.length - (i + 1))
      case measure => omega
      case rel => exact ⟨i + 1, _, by omega, by go_num, by rw [HX.out]; exact HC4.out.put HT.out 4 _⟩
    · obtain rfl : i = x.jobs.length := by omega
      rw [List.take_length] at HC
      obtain ⟨A, cA, rfl, _⟩ := own_shape HC.out.r0
      go_wp2_with (at_builtin; go_loud (refine wpList_append_owned' (by rfl) (.tmp 56) (.tmp 58) 58 (by rfl) w.heap.size 131 i1 _ 2 24 Try.underlying58 hi1 hz1 hzs1 hy1 rfl (by omega) nilV 0 [] (by rfl) HC.out.r1 A1 x.conds.length c1 f1 (x.conds.flatMap CondS.vals) (by rfl) (HS.out.conds.fr0 HC.out.fr) (vals_oneC _) (by have := HL.out.conds; simp only [maxLen]; omega) (by have := HL.out.conds; omega) HC.out.fr.size ?_); intro v4 w4 ho hg hat; rw [Nat.zero_add, List.nil_append] at ho; have HC4 := Lib.hid (HC.out.all1 HT.out ho hg); obtain ⟨A4, c4, rfl, _⟩ := own_shape ho; clear ho hg hat d0 d1 d2 d3 d4 d5 d6 d7 d8 d9 e4 e5 e6 e7 e8; obtain ⟨d0, d1, d2, d3, d4, d5, d6, d7⟩ := HC4.out.dst.cells8; have d8 := HC4.out.dst.lt; have d9 := HC4.out.dst.frozens)
      have HC5 := Lib.hid (HC4.out.put HT.out 5 (.slice A4 x.conds.length c4))
      clear d0 d1 d2 d3 d4 d5 d6 d7 d8 d9 HC
      go_loopg [6] x.res.length (fun g v6 wr => Cp2 w x 62 67 119 131 122 125 w.heap.size (w.heap.size + 1) (w.heap.size + 2) (x.cells A0 A1 A2 A3 c0 c1 c2 c3) (.slice A x.jobs.length cA) (.slice A4 x.conds.length c4) g v6 wr)
      case atStart => exact ⟨0, nilV, by omega, rfl, HC5.out⟩
      case round =>
        clear HC4 HC5
        obtain ⟨i, v2, hgi, rfl, hcp⟩ := hrel
        have HC := Lib.hid hcp
        clear hcp hn0 hlt
        have hn0 : (0 : Int) ≤ (i : Int) := by omega
        obtain ⟨d0, d1, d2, d3, d4, d5, d6, d7⟩ := HC.out.dst.cells8
        have d8 := HC.out.dst.lt
        have d9 := HC.out.dst.frozens
        have e4 := HC.out.src.cell 4
        have e5 := HC.out.src.cell 5
        have e6 := HC.out.src.cell 6
        have e7 := HC.out.src.cell 7
        have e8 := HC.out.src.lt
        simp only [List.getElem?_cons_zero, List.getElem?_cons_succ] at e4 e5 e6 e7
        by_cases hlt : i < x.res.length
        · have hn1 : (i : Int) < (x.res.length : Int) := by omega
          obtain ⟨y, hy⟩ : ∃ y, x.res[i]? = some y := ⟨_, List.getElem?_eq_getElem hlt⟩
          obtain ⟨ga, oa, rfl, hga, k0, k1, k2⟩ := res_at (HS.out.res.fr0 HC.out.fr) hy
          have HX := Lib.hid (show x.res.take (i + 1) = x.res.take i ++ [y] by rw [List.take_add_one, hy]; rfl)
          have HXL := Lib.hid (show (x.res.take i).length = i by rw [List.length_take]; omega)
          obtain ⟨l2, hl2⟩ : ∃ l2, l2 = x.res.take i := ⟨_, rfl⟩
          rw [← hl2] at HC HX HXL
          clear hy hl2
          obtain ⟨A2', cA2, rfl, _⟩ := own_shape HC.out.r2
          have HC2 := Lib.hid (HC.out.fr0 ((Fr.refl No wr).alloc (Obj.cells y.vals.toArray 122)).drew)
          have HN2 : Hid (Sl (wr.alloc (Obj.cells y.vals.toArray 122)).drew 122 3 (some ⟨wr.heap.size, 0, none⟩) 1 y.vals) := Lib.hid (Sl.of_new wr 122 3 1 y.vals.toArray y.vals rfl rfl).drew
          go_wp2
          refine wp_region_o [(0, 0), (1, 1), (2, 0), (3, 1), (4, 0), (5, 0), (6, 0), (7, 1), (8, 0), (9, 1), (10, 0), (11, 0), (12, 0), (13, 1), (14, 0), (15, 1), (16, 0), (17, 0), (18, 0), (19, 1), (20, 0), (21, 2), (22, 3), (23, 0), (24, 3)] (by kernel_rfl) (by kernel_rfl) ?_
          repeat (first
            | (apply wpO_pure rfl rfl; (focus (intro w'; go_simp; (try rfl); done)); try simp only [Act.put, List.setIfInBounds_toArray, List.set_cons_zero, List.set_cons_succ])
            | (apply wpO_read rfl rfl; (focus (intro w' hf' hs'; (try simp only [World.size_drew, World.cell?_drew, World.size_alloc, World.size_setCell] at hs'); go_simp; (try rfl); done)); try simp only [Act.put, List.setIfInBounds_toArray, List.set_cons_zero, List.set_cons_succ])
            | (apply wpO_skip (by decide) rfl rfl; try simp only [Act.put, List.setIfInBounds_toArray, List.set_cons_zero, List.set_cons_succ]))
          refine wpO_loudE rfl fun K hK => ?_
          go_simp
          refine hK _ _ ⟨by (repeat (first | exact Fr.refl _ _ | assumption | refine Fr.drew ?_ | refine Fr.alloc ?_ _ | refine Fr.drewL ?_)), ?_⟩
          clear hK K
          repeat (first
            | (apply wpO_pure rfl rfl; (focus (intro w'; go_simp; (try rfl); done)); try simp only [Act.put, List.setIfInBounds_toArray, List.set_cons_zero, List.set_cons_succ])
            | (apply wpO_read rfl rfl; (focus (intro w' hf' hs'; (try simp only [World.size_drew, World.cell?_drew, World.size_alloc, World.size_setCell] at hs'); go_simp; (try rfl); done)); try simp only [Act.put, List.setIfInBounds_toArray, List.set_cons_zero, List.set_cons_succ])
            | (apply wpO_skip (by decide) rfl rfl; try simp only [Act.put, List.setIfInBounds_toArray, List.set_cons_zero, List.set_cons_succ]))
          refine wpO_loud rfl fun K hK => ?_
          refine step_append_owned (by rfl) (.tmp 69) (.tmp 89) 64 (by rfl) w.heap.size 122 i2 _ 3 32 Try.underlying64 hi2 hz2 hzs2 hy2 rfl (by omega) (.slice A2' l2.length cA2) l2.length (l2.flatMap ResS.vals) (by rfl) HC2.out.r2 (some ⟨wr.heap.size, 0, none⟩) 1 1 122 y.vals (by rfl) HN2.out (List.all_eq_true.1 (by rfl)) (by have := HXL.out; have := HL.out.res; simp only [maxLen]; omega) (by have := HXL.out; have := HL.out.res; omega) HC2.out.fr.size ?_
          intro v4 w4 ho hg hat
          refine hK _ _ ?_
          clear hK K
          try simp only [Act.put, List.setIfInBounds_toArray, List.set_cons_zero, List.set_cons_succ]
          have HC6 := Lib.hid (HC2.out.grow2 HT.out ho hg)
          obtain ⟨A6, c6, rfl, _⟩ := own_shape ho
          clear ho hg hat d0 d1 d2 d3 d4 d5 d6 d7 d8 d9 e4 e5 e6 e7 e8 k0 k1 k2 hga
          obtain ⟨d0, d1, d2, d3, d4, d5, d6, d7⟩ := HC6.out.dst.cells8
          have d8 := HC6.out.dst.lt
          have d9 := HC6.out.dst.frozens
          repeat (first
            | (apply wpO_pure rfl rfl; (focus (intro w'; go_simp; (try rfl); done)); try simp only [Act.put, List.setIfInBounds_toArray, List.set_cons_zero, List.set_cons_succ])
            | (apply wpO_read rfl rfl; (focus (intro w' hf' hs'; (try simp only [World.size_drew, World.cell?_drew, World.size_alloc, World.size_setCell] at hs'); go_simp; (try rfl); done)); try simp only [Act.put, List.setIfInBounds_toArray, List.set_cons_zero, List.set_cons_succ])
            | (apply wpO_skip (by decide) rfl rfl; try simp only [Act.put, List.setIfInBounds_toArray, List.set_cons_zero, List.set_cons_succ]))
          refine wpO_loud rfl fun K hK => ?_
          go_simp
          refine hK _ _ ?_
          clear hK K
          repeat (first
            | (apply wpO_pure rfl rfl; (focus (intro w'; go_simp; (try rfl); done)); try simp only [Act.put, List.setIfInBounds_toArray, List.set_cons_zero, List.set_cons_succ])
            | (apply wpO_read rfl rfl; (focus (intro w' hf' hs'; (try simp only [World.size_drew, World.cell?_drew, World.size_alloc, World.size_setCell] at hs'); go_simp; (try rfl); done)); try simp only [Act.put, List.setIfInBounds_toArray, List.set_cons_zero, List.set_cons_succ])
            | (apply wpO_skip (by decide) rfl rfl; try simp only [Act.put, List.setIfInBounds_toArray, List.set_cons_zero, List.set_cons_succ]))
          refine wpO_nil ?_
          go_wp2
          go_roundg (x.res.length - (i + 1))
          case measure => omega
          case rel => exact ⟨i + 1, _, by omega, by go_num, by rw [HX.out]; exact HC6.out.put HT.out 6 _⟩
        · obtain rfl : i = x.res.length := by omega
          rw [List.take_length] at HC
          obtain ⟨A6, c6, rfl, _⟩ := own_shape HC.out.r2
          go_wp2
          clear d0 d1 d2 d3 d4 d5 d6 d7 d8 d9 e4 e5 e6 e7 e8
          go_loopg [7] x.held.length (fun g v7 wr => Cp3 w x 62 67 119 131 122 125 w.heap.size (w.heap.size + 1) (w.heap.size + 2) (x.cells A0 A1 A2 A3 c0 c1 c2 c3) (.slice A x.jobs.length cA) (.slice A4 x.conds.length c4) (.slice A6 x.res.length c6) g v7 wr)
          case atStart => exact ⟨0, nilV, by omega, rfl, HC.out⟩
          case round =>
            clear HC
            obtain ⟨i, v3, hgi, rfl, hcp⟩ := hrel
            have HC := Lib.hid hcp
            clear hcp hn0 hlt
            have hn0 : (0 : Int) ≤ (i : Int) := by omega
            obtain ⟨d0, d1, d2, d3, d4, d5, d6, d7⟩ := HC.out.dst.cells8
            have d8 := HC.out.dst.lt
            have d9 := HC.out.dst.frozens
            have e4 := HC.out.src.cell 4
            have e5 := HC.out.src.cell 5
            have e6 := HC.out.src.cell 6
            have e7 := HC.out.src.cell 7
            have e8 := HC.out.src.lt
            simp only [List.getElem?_cons_zero, List.getElem?_cons_succ] at e4 e5 e6 e7
            by_cases hlt : i < x.held.length
            · have hn1 : (i : Int) < (x.held.length : Int) := by omega
              obtain ⟨y, hy⟩ : ∃ y, x.held[i]? = some y := ⟨_, List.getElem?_eq_getElem hlt⟩
              obtain ⟨ga, oa, rfl, hga, k0, k1, k2, k3⟩ := held_at (HS.out.held.fr0 HC.out.fr) hy
              have HX := Lib.hid (show x.held.take (i + 1) = x.held.take i ++ [y] by rw [List.take_add_one, hy]; rfl)
              have HXL := Lib.hid (show (x.held.take i).length = i by rw [List.length_take]; omega)
              obtain ⟨l3, hl3⟩ : ∃ l3, l3 = x.held.take i := ⟨_, rfl⟩
              rw [← hl3] at HC HX HXL
              clear hy hl3
              obtain ⟨A3', cA3, rfl, _⟩ := own_shape HC.out.r3
              have HC2 := Lib.hid (HC.out.fr0 ((Fr.refl No wr).alloc (Obj.cells y.vals.toArray 125)).drew)
              have HN2 : Hid (Sl (wr.alloc (Obj.cells y.vals.toArray 125)).drew 125 4 (some ⟨wr.heap.size, 0, none⟩) 1 y.vals) := Lib.hid (Sl.of_new wr 125 4 1 y.vals.toArray y.vals rfl rfl).drew
              go_wp2
              refine wp_region_o [(0, 0), (1, 1), (2, 0), (3, 1), (4, 0), (5, 0), (6, 0), (7, 1), (8, 0), (9, 1), (10, 0), (11, 0), (12, 0), (13, 1), (14, 0), (15, 1), (16, 0), (17, 0), (18, 0), (19, 1), (20, 0), (21, 1), (22, 0), (23, 0), (24, 0), (25, 1), (26, 0), (27, 2), (28, 3), (29, 0), (30, 3)] (by kernel_rfl) (by kernel_rfl) ?_
              repeat (first
                | (apply wpO_pure rfl rfl; (focus (intro w'; go_simp; (try rfl); done)); try simp only [Act.put, List.setIfInBounds_toArray, List.set_cons_zero, List.set_cons_succ])
                | (apply wpO_read rfl rfl; (focus (intro w' hf' hs'; (try simp only [World.size_drew, World.cell?_drew, World.size_alloc, World.size_setCell] at hs'); go_simp; (try rfl); done)); try simp only [Act.put, List.setIfInBounds_toArray, List.set_cons_zero, List.set_cons_succ])
                | (apply wpO_skip (by decide) rfl rfl; try simp only [Act.put, List.setIfInBounds_toArray, List.set_cons_zero, List.set_cons_succ]))
              refine wpO_loudE rfl fun K hK => ?_
              go_simp
              refine hK _ _ ⟨by (repeat (first | exact Fr.refl _ _ | assumption | refine Fr.drew ?_ | refine Fr.alloc ?_ _ | refine Fr.drewL ?_)), ?_⟩
              clear hK K
              repeat (first
                | (apply wpO_pure rfl rfl; (focus (intro w'; go_simp; (try rfl); done)); try simp only [Act.put, List.setIfInBounds_toArray, List.set_cons_zero, List.set_cons_succ])
                | (apply wpO_read rfl rfl; (focus (intro w' hf' hs'; (try simp only [World.size_drew, World.cell?_drew, World.size_alloc, World.size_setCell] at hs'); go_simp; (try rfl); done)); try simp only [Act.put, List.setIfInBounds_toArray, List.set_cons_zero, List.set_cons_succ])
                | (apply wpO_skip (by decide) rfl rfl; try simp only [Act.put, List.setIfInBounds_toArray, List.set_cons_zero, List.set_cons_succ]))
              refine wpO_loud rfl fun K hK => ?_
              refine step_append_owned (by rfl) (.tmp 100) (.tmp 126) 65 (by rfl) w.heap.size 125 i3 _ 4 40 Try.underlying65 hi3 hz3 hzs3 hy3 rfl (by omega) (.slice A3' l3.length cA3) l3.length (l3.flatMap HeldS.vals) (by rfl) HC2.out.r3 (some ⟨wr.heap.size, 0, none⟩) 1 1 125 y.vals (by rfl) HN2.out (List.all_eq_true.1 (by rfl)) (by have := HXL.out; have := HL.out.held; simp only [maxLen]; omega) (by have := HXL.out; have := HL.out.held; omega) HC2.out.fr.size ?_
              intro v4 w4 ho hg hat
              refine hK _ _ ?_
              clear hK K
              try simp only [Act.put, List.setIfInBounds_toArray, List.set_cons_zero, List.set_cons_succ]
              have HC7 := Lib.hid (HC2.out.grow3 HT.out ho hg)
              obtain ⟨A7, c7, rfl, _⟩ := own_shape ho
              clear ho hg hat d0 d1 d2 d3 d4 d5 d6 d7 d8 d9 e4 e5 e6 e7 e8 k0 k1 k2 k3 hga
              obtain ⟨d0, d1, d2, d3, d4, d5, d6, d7⟩ := HC7.out.dst.cells8
              have d8 := HC7.out.dst.lt
              have d9 := HC7.out.dst.frozens
              repeat (first
                | (apply wpO_pure rfl rfl; (focus (intro w'; go_simp; (try rfl); done)); try simp only [Act.put, List.setIfInBounds_toArray, List.set_cons_zero, List.set_cons_succ])
                | (apply wpO_read rfl rfl; (focus (intro w' hf' hs'; (try simp only [World.size_drew, World.cell?_drew, World.size_alloc, World.size_setCell] at hs'); go_simp; (try rfl); done)); try simp only [Act.put, List.setIfInBounds_toArray, List.set_cons_zero, List.set_cons_succ])
                | (apply wpO_skip (by decide) rfl rfl; try simp only [Act.put, List.setIfInBounds_toArray, List.set_cons_zero, List.set_cons_succ]))
              refine wpO_loud rfl fun K hK => ?_
              go_simp
              refine hK _ _ ?_
              clear hK K
              repeat (first
                | (apply wpO_pure rfl rfl; (focus (intro w'; go_simp; (try rfl); done)); try simp only [Act.put, List.setIfInBounds_toArray, List.set_cons_zero, List.set_cons_succ])
                | (apply wpO_read rfl rfl; (focus (intro w' hf' hs'; (try simp only [World.size_drew, World.cell?_drew, World.size_alloc, World.size_setCell] at hs'); go_simp; (try rfl); done)); try simp only [Act.put, List.setIfInBounds_toArray, List.set_cons_zero, List.set_cons_succ])
                | (apply wpO_skip (by decide) rfl rfl; try simp only [Act.put, List.setIfInBounds_toArray, List.set_cons_zero, List.set_cons_succ]))
              refine wpO_nil ?_
              go_wp2
              go_roundg (x.held.length - (i + 1))
              case measure => omega
              case rel => exact ⟨i + 1, _, by omega, by go_num, by rw [HX.out]; exact HC7.out.put HT.out 7 _⟩
            · obtain rfl : i = x.held.length := by omega
              rw [List.take_length] at HC
              obtain ⟨A7, c7, rfl, _⟩ := own_shape HC.out.r3
              obtain ⟨z0, z1, z2, z3, z4, z5, z6, z7⟩ := HC.out.out.cells8
              have z8 := HC.out.out.lt
              have z9 := HC.out.out.frozens
              go_wp2
              have hf := (Fr.refl (fun k => k = w.heap.size + 1) wr).set8v (g := w.heap.size + 1) (.inl rfl) (.int .i64 x.clock) (.int .i64 x.day) (.int .i64 x.id) (.int .i64 x.run) (.slice A x.jobs.length cA) (.slice A4 x.conds.length c4) (.slice A6 x.res.length c6) (.slice A7 x.held.length c7)
              exact bodyPost_ret (given_st_res (x := x) (A0 := A) (A1 := A4) (A2 := A6) (A3 := A7) (c0 := cA) (c1 := c4) (c2 := c6) (c3 := c7) (HC.out.out.set8v _ _ _ _ _ _ _ _) rfl) rfl ⟨A, A4, A6, A7, cA, c4, c6, c7, rfl,
                ⟨Sl.of_own (own_fr HC.out.r0 hf (fun k hk e => own_far HC.out.r0 HC.out.out HT.out.d0 k hk e)), Sl.of_own (own_fr HC.out.r1 hf (fun k hk e => own_far HC.out.r1 HC.out.out HT.out.d1 k hk e)), Sl.of_own (own_fr HC.out.r2 hf (fun k hk e => own_far HC.out.r2 HC.out.out HT.out.d2 k hk e)), Sl.of_own (own_fr HC.out.r3 hf (fun k hk e => own_far HC.out.r3 HC.out.out HT.out.d3 k hk e))⟩,
                HC.out.fr.set8v (.inr (Nat.le_succ _)) _ _ _ _ _ _ _ _⟩
end Go.Proofs.Ytegogggemmcgdaa

/- the reference's Same for states. -/
namespace Go.Proofs.Ytegogggemmcgdaa
open Go Go.RowKit Go.Proofs

theorem eqJ_und : Try.prog.underlying 118 = some (.struct (Try.prog.fieldsOf 118)) := by kernel_rfl
theorem eqJ_flds : (Try.prog.fieldsOf 118).toList.map (fun f => (f.name == "_", f.type, f.offset)) = [(false, 2, 0), (false, 3, 1), (false, 2, 2), (false, 3, 3), (false, 4, 4), (false, 4, 5), (false, 2, 6), (false, 2, 7), (false, 2, 8), (false, 2, 9)] := by kernel_rfl
theorem eqJ_equal (x : JSt) (w : World) : (Op.equalIn 10000 118 (.agg x.vals.toArray) (.agg x.vals.toArray)).run Try.prog w = .ok true w := by
  rw [run_equalIn_agg w 9999 _ _ _ eqJ_und (by kernel_rfl)]
  have key : ∀ (fs : List Field), (fs.map fun f => (f.name == "_", f.type, f.offset)) = [(false, 2, 0), (false, 3, 1), (false, 2, 2), (false, 3, 3), (false, 4, 4), (false, 4, 5), (false, 2, 6), (false, 2, 7), (false, 2, 8), (false, 2, 9)] →
      (Op.eqFields 9999 x.vals.toArray x.vals.toArray fs).run Try.prog w = .ok true w := by
    intro fs hfs
    have hlen : fs.length = 10 := by have := congrArg List.length hfs; simpa using this
    match fs, hlen with
    | [f0, f1, f2, f3, f4, f5, f6, f7, f8, f9], _ =>
      simp only [List.map_cons, List.map_nil, List.cons.injEq, Prod.mk.injEq, and_true] at hfs
      obtain ⟨⟨a0, b0, c0⟩, ⟨a1, b1, c1⟩, ⟨a2, b2, c2⟩, ⟨a3, b3, c3⟩, ⟨a4, b4, c4⟩, ⟨a5, b5, c5⟩, ⟨a6, b6, c6⟩, ⟨a7, b7, c7⟩, ⟨a8, b8, c8⟩, ⟨a9, b9, c9⟩⟩ := hfs
      obtain ⟨i3, hi3, hz3, hs3, _⟩ := info_parts (show (Try.prog.info? 3).map (fun i => (i.zero, i.size, i.bytes)) = some (some (.int .i64 0), 1, 8) by kernel_rfl)
      obtain ⟨i2, hi2, hz2, hs2, _⟩ := info_parts (show (Try.prog.info? 2).map (fun i => (i.zero, i.size, i.bytes)) = some (some (.int .i64 0), 1, 8) by kernel_rfl)
      obtain ⟨i4, hi4, hz4, hs4, _⟩ := info_parts (show (Try.prog.info? 4).map (fun i => (i.zero, i.size, i.bytes)) = some (some (.bool false), 1, 1) by kernel_rfl)
      obtain ⟨i9, hi9, hz9, hs9, _⟩ := info_parts (show (Try.prog.info? 9).map (fun i => (i.zero, i.size, i.bytes)) = some (some (.string ByteArray.empty), 1, 16) by kernel_rfl)
      have u3 : Try.prog.underlying 3 = some (.int .i64) := by kernel_rfl
      have u2 : Try.prog.underlying 2 = some (.int .i64) := by kernel_rfl
      have u4 : Try.prog.underlying 4 = some .bool := by kernel_rfl
      have u9 : Try.prog.underlying 9 = some .string := by kernel_rfl
      simp [Op.eqFields, a0, a1, a2, a3, a4, a5, a6, a7, a8, a9, b0, b1, b2, b3, b4, b5, b6, b7, b8, b9, c0, c1, c2, c3, c4, c5, c6, c7, c8, c9, part, isAgg, sizeOf, typeInfo, hi3, hi2, hi4, hi9, hs3, hs2, hs4, hs9, hz3, hz2, hz4, hz9, run_equalIn_int (k' := .i64) (h := u3), run_equalIn_int (k' := .i64) (h := u2), run_equalIn_bool' (h := u4), run_equalIn_string (h := u9)]
  exact key _ eqJ_flds
theorem eqJ_neq (x : JSt) (w : World) : (binOp .neq 118 (.agg x.vals.toArray) (.agg x.vals.toArray)).run Try.prog w = .ok (.bool false) w := by
  rw [run_neq_struct, eqJ_equal]; rfl
theorem eqJ_guard : Try.prog.eqGuardType Try.prog.depth 118 = false := by kernel_rfl
theorem eqJ_ug (w : World) (x y : Operand) (u v : JSt) : (eqGuard .neq 118 x y (.agg u.vals.toArray) (.agg v.vals.toArray)).run Try.prog w = .ok () w := run_eqGuard_agg w .neq _ x y _ _ eqJ_guard
theorem eqC_und : Try.prog.underlying 131 = some (.struct (Try.prog.fieldsOf 131)) := by kernel_rfl
theorem eqC_flds : (Try.prog.fieldsOf 131).toList.map (fun f => (f.name == "_", f.type, f.offset)) = [(false, 9, 0), (false, 2, 1)] := by kernel_rfl
theorem eqC_equal (x : CondS) (w : World) : (Op.equalIn 10000 131 (.agg x.vals.toArray) (.agg x.vals.toArray)).run Try.prog w = .ok true w := by
  rw [run_equalIn_agg w 9999 _ _ _ eqC_und (by kernel_rfl)]
  have key : ∀ (fs : List Field), (fs.map fun f => (f.name == "_", f.type, f.offset)) = [(false, 9, 0), (false, 2, 1)] →
      (Op.eqFields 9999 x.vals.toArray x.vals.toArray fs).run Try.prog w = .ok true w := by
    intro fs hfs
    have hlen : fs.length = 2 := by have := congrArg List.length hfs; simpa using this
    match fs, hlen with
    | [f0, f1], _ =>
      simp only [List.map_cons, List.map_nil, List.cons.injEq, Prod.mk.injEq, and_true] at hfs
      obtain ⟨⟨a0, b0, c0⟩, ⟨a1, b1, c1⟩⟩ := hfs
      obtain ⟨i3, hi3, hz3, hs3, _⟩ := info_parts (show (Try.prog.info? 3).map (fun i => (i.zero, i.size, i.bytes)) = some (some (.int .i64 0), 1, 8) by kernel_rfl)
      obtain ⟨i2, hi2, hz2, hs2, _⟩ := info_parts (show (Try.prog.info? 2).map (fun i => (i.zero, i.size, i.bytes)) = some (some (.int .i64 0), 1, 8) by kernel_rfl)
      obtain ⟨i4, hi4, hz4, hs4, _⟩ := info_parts (show (Try.prog.info? 4).map (fun i => (i.zero, i.size, i.bytes)) = some (some (.bool false), 1, 1) by kernel_rfl)
      obtain ⟨i9, hi9, hz9, hs9, _⟩ := info_parts (show (Try.prog.info? 9).map (fun i => (i.zero, i.size, i.bytes)) = some (some (.string ByteArray.empty), 1, 16) by kernel_rfl)
      have u3 : Try.prog.underlying 3 = some (.int .i64) := by kernel_rfl
      have u2 : Try.prog.underlying 2 = some (.int .i64) := by kernel_rfl
      have u4 : Try.prog.underlying 4 = some .bool := by kernel_rfl
      have u9 : Try.prog.underlying 9 = some .string := by kernel_rfl
      simp [Op.eqFields, a0, a1, b0, b1, c0, c1, part, isAgg, sizeOf, typeInfo, hi3, hi2, hi4, hi9, hs3, hs2, hs4, hs9, hz3, hz2, hz4, hz9, run_equalIn_int (k' := .i64) (h := u3), run_equalIn_int (k' := .i64) (h := u2), run_equalIn_bool' (h := u4), run_equalIn_string (h := u9)]
  exact key _ eqC_flds
theorem eqC_neq (x : CondS) (w : World) : (binOp .neq 131 (.agg x.vals.toArray) (.agg x.vals.toArray)).run Try.prog w = .ok (.bool false) w := by
  rw [run_neq_struct, eqC_equal]; rfl
theorem eqC_guard : Try.prog.eqGuardType Try.prog.depth 131 = false := by kernel_rfl
theorem eqC_ug (w : World) (x y : Operand) (u v : CondS) : (eqGuard .neq 131 x y (.agg u.vals.toArray) (.agg v.vals.toArray)).run Try.prog w = .ok () w := run_eqGuard_agg w .neq _ x y _ _ eqC_guard
theorem eqR_und : Try.prog.underlying 121 = some (.struct (Try.prog.fieldsOf 121)) := by kernel_rfl
theorem eqR_flds : (Try.prog.fieldsOf 121).toList.map (fun f => (f.name == "_", f.type, f.offset)) = [(false, 9, 0), (false, 2, 1), (false, 4, 2)] := by kernel_rfl
theorem eqR_equal (x : ResS) (w : World) : (Op.equalIn 10000 121 (.agg x.vals.toArray) (.agg x.vals.toArray)).run Try.prog w = .ok true w := by
  rw [run_equalIn_agg w 9999 _ _ _ eqR_und (by kernel_rfl)]
  have key : ∀ (fs : List Field), (fs.map fun f => (f.name == "_", f.type, f.offset)) = [(false, 9, 0), (false, 2, 1), (false, 4, 2)] →
      (Op.eqFields 9999 x.vals.toArray x.vals.toArray fs).run Try.prog w = .ok true w := by
    intro fs hfs
    have hlen : fs.length = 3 := by have := congrArg List.length hfs; simpa using this
    match fs, hlen with
    | [f0, f1, f2], _ =>
      simp only [List.map_cons, List.map_nil, List.cons.injEq, Prod.mk.injEq, and_true] at hfs
      obtain ⟨⟨a0, b0, c0⟩, ⟨a1, b1, c1⟩, ⟨a2, b2, c2⟩⟩ := hfs
      obtain ⟨i3, hi3, hz3, hs3, _⟩ := info_parts (show (Try.prog.info? 3).map (fun i => (i.zero, i.size, i.bytes)) = some (some (.int .i64 0), 1, 8) by kernel_rfl)
      obtain ⟨i2, hi2, hz2, hs2, _⟩ := info_parts (show (Try.prog.info? 2).map (fun i => (i.zero, i.size, i.bytes)) = some (some (.int .i64 0), 1, 8) by kernel_rfl)
      obtain ⟨i4, hi4, hz4, hs4, _⟩ := info_parts (show (Try.prog.info? 4).map (fun i => (i.zero, i.size, i.bytes)) = some (some (.bool false), 1, 1) by kernel_rfl)
      obtain ⟨i9, hi9, hz9, hs9, _⟩ := info_parts (show (Try.prog.info? 9).map (fun i => (i.zero, i.size, i.bytes)) = some (some (.string ByteArray.empty), 1, 16) by kernel_rfl)
      have u3 : Try.prog.underlying 3 = some (.int .i64) := by kernel_rfl
      have u2 : Try.prog.underlying 2 = some (.int .i64) := by kernel_rfl
      have u4 : Try.prog.underlying 4 = some .bool := by kernel_rfl
      have u9 : Try.prog.underlying 9 = some .string := by kernel_rfl
      simp [Op.eqFields, a0, a1, a2, b0, b1, b2, c0, c1, c2, part, isAgg, sizeOf, typeInfo, hi3, hi2, hi4, hi9, hs3, hs2, hs4, hs9, hz3, hz2, hz4, hz9, run_equalIn_int (k' := .i64) (h := u3), run_equalIn_int (k' := .i64) (h := u2), run_equalIn_bool' (h := u4), run_equalIn_string (h := u9)]
  exact key _ eqR_flds
theorem eqR_neq (x : ResS) (w : World) : (binOp .neq 121 (.agg x.vals.toArray) (.agg x.vals.toArray)).run Try.prog w = .ok (.bool false) w := by
  rw [run_neq_struct, eqR_equal]; rfl
theorem eqR_guard : Try.prog.eqGuardType Try.prog.depth 121 = false := by kernel_rfl
theorem eqR_ug (w : World) (x y : Operand) (u v : ResS) : (eqGuard .neq 121 x y (.agg u.vals.toArray) (.agg v.vals.toArray)).run Try.prog w = .ok () w := run_eqGuard_agg w .neq _ x y _ _ eqR_guard
theorem eqH_und : Try.prog.underlying 124 = some (.struct (Try.prog.fieldsOf 124)) := by kernel_rfl
theorem eqH_flds : (Try.prog.fieldsOf 124).toList.map (fun f => (f.name == "_", f.type, f.offset)) = [(false, 2, 0), (false, 9, 1), (false, 2, 2), (false, 3, 3)] := by kernel_rfl
theorem eqH_equal (x : HeldS) (w : World) : (Op.equalIn 10000 124 (.agg x.vals.toArray) (.agg x.vals.toArray)).run Try.prog w = .ok true w := by
  rw [run_equalIn_agg w 9999 _ _ _ eqH_und (by kernel_rfl)]
  have key : ∀ (fs : List Field), (fs.map fun f => (f.name == "_", f.type, f.offset)) = [(false, 2, 0), (false, 9, 1), (false, 2, 2), (false, 3, 3)] →
      (Op.eqFields 9999 x.vals.toArray x.vals.toArray fs).run Try.prog w = .ok true w := by
    intro fs hfs
    have hlen : fs.length = 4 := by have := congrArg List.length hfs; simpa using this
    match fs, hlen with
    | [f0, f1, f2, f3], _ =>
      simp only [List.map_cons, List.map_nil, List.cons.injEq, Prod.mk.injEq, and_true] at hfs
      obtain ⟨⟨a0, b0, c0⟩, ⟨a1, b1, c1⟩, ⟨a2, b2, c2⟩, ⟨a3, b3, c3⟩⟩ := hfs
      obtain ⟨i3, hi3, hz3, hs3, _⟩ := info_parts (show (Try.prog.info? 3).map (fun i => (i.zero, i.size, i.bytes)) = some (some (.int .i64 0), 1, 8) by kernel_rfl)
      obtain ⟨i2, hi2, hz2, hs2, _⟩ := info_parts (show (Try.prog.info? 2).map (fun i => (i.zero, i.size, i.bytes)) = some (some (.int .i64 0), 1, 8) by kernel_rfl)
      obtain ⟨i4, hi4, hz4, hs4, _⟩ := info_parts (show (Try.prog.info? 4).map (fun i => (i.zero, i.size, i.bytes)) = some (some (.bool false), 1, 1) by kernel_rfl)
      obtain ⟨i9, hi9, hz9, hs9, _⟩ := info_parts (show (Try.prog.info? 9).map (fun i => (i.zero, i.size, i.bytes)) = some (some (.string ByteArray.empty), 1, 16) by kernel_rfl)
      have u3 : Try.prog.underlying 3 = some (.int .i64) := by kernel_rfl
      have u2 : Try.prog.underlying 2 = some (.int .i64) := by kernel_rfl
      have u4 : Try.prog.underlying 4 = some .bool := by kernel_rfl
      have u9 : Try.prog.underlying 9 = some .string := by kernel_rfl
      simp [Op.eqFields, a0, a1, a2, a3, b0, b1, b2, b3, c0, c1, c2, c3, part, isAgg, sizeOf, typeInfo, hi3, hi2, hi4, hi9, hs3, hs2, hs4, hs9, hz3, hz2, hz4, hz9, run_equalIn_int (k' := .i64) (h := u3), run_equalIn_int (k' := .i64) (h := u2), run_equalIn_bool' (h := u4), run_equalIn_string (h := u9)]
  exact key _ eqH_flds
theorem eqH_neq (x : HeldS) (w : World) : (binOp .neq 124 (.agg x.vals.toArray) (.agg x.vals.toArray)).run Try.prog w = .ok (.bool false) w := by
  rw [run_neq_struct, eqH_equal]; rfl
theorem eqH_guard : Try.prog.eqGuardType Try.prog.depth 124 = false := by kernel_rfl
theorem eqH_ug (w : World) (x y : Operand) (u v : HeldS) : (eqGuard .neq 124 x y (.agg u.vals.toArray) (.agg v.vals.toArray)).run Try.prog w = .ok () w := run_eqGuard_agg w .neq _ x y _ _ eqH_guard
def SLRel {α : Type} (w0 : World) (l : List α) (g : Nat) (v5 : Value) (wr : World) : Prop := ∃ k : Nat, k + g = l.length ∧ v5 = .int .i64 k ∧ Fr No w0 wr
set_option maxRecDepth 100000 in
set_option maxHeartbeats 2000000 in
theorem sameJ_any (A B : Option Addr) (c d : Nat) (l : List JSt) (e1 e2 : TypeId) (w : World) (hA : Sl w e1 10 A l.length (l.flatMap JSt.vals)) (hB : Sl w e2 10 B l.length (l.flatMap JSt.vals)) (hl : l.length ≤ 140737488355328) :
    Calls Try.prog 68 #[.slice A l.length c, .slice B l.length d] w fun e w' => e = .returned (.bool true) ∧ Fr No w w' := by
  have HA := Lib.hid hA
  have HB := Lib.hid hB
  have hl0 : (0 : Int) ≤ (l.length : Int) := by omega
  have hl1 : (l.length : Int) ≤ 9223372036854775807 := by omega
  clear hA hB hl
  have hne := eqJ_neq
  have hgu := eqJ_ug
  go_enter Try.func68, Try.ntmps68
  go_wp2
  go_loopg [5] l.length (fun g v5 wr => SLRel w l g v5 wr)
  case atStart => exact ⟨0, by omega, rfl, Fr.refl _ _⟩
  case round =>
    obtain ⟨k, hg, rfl, hf⟩ := hrel
    have HF := Lib.hid hf
    clear hf
    have hk0 : (0 : Int) ≤ (k : Int) := by omega
    by_cases hlt : k < l.length
    · have hk1 : (k : Int) < (l.length : Int) := by omega
      obtain ⟨x, hx⟩ : ∃ x, l[k]? = some x := ⟨_, List.getElem?_eq_getElem hlt⟩
      obtain ⟨b, o, rfl, hb, m0, m1, m2, m3, m4, m5, m6, m7, m8, m9⟩ := job_at (HA.out.fr0 HF.out) hx
      obtain ⟨b', o', rfl, hb', q0, q1, q2, q3, q4, q5, q6, q7, q8, q9⟩ := job_at (HB.out.fr0 HF.out) hx
      clear hx
      go_wp2
      refine wp_region_o [(0, 0), (1, 0), (2, 0), (4, 0), (5, 0), (6, 0), (3, 1), (7, 1), (8, 0)] (by kernel_rfl) (by kernel_rfl) ?_
      repeat (first
        | (apply wpO_pure rfl rfl; (focus (intro w'; go_simp; (try rfl); done)); try simp only [Act.put, List.setIfInBounds_toArray, List.set_cons_zero, List.set_cons_succ])
        | (apply wpO_read rfl rfl; (focus (intro w' hf' hs'; (try simp only [World.size_drew, World.cell?_drew, World.size_alloc, World.size_setCell] at hs'); go_simp; (try rfl); done)); try simp only [Act.put, List.setIfInBounds_toArray, List.set_cons_zero, List.set_cons_succ])
        | (apply wpO_skip (by decide) rfl rfl; try simp only [Act.put, List.setIfInBounds_toArray, List.set_cons_zero, List.set_cons_succ]))
      refine wpO_nil ?_
      go_wp2
      go_roundg (l.length - (k + 1))
      case measure => omega
      case rel => exact ⟨k + 1, by omega, by go_num, by have hh := HF.out; (repeat (first | exact Fr.refl _ _ | assumption | refine Fr.drew ?_ | refine Fr.alloc ?_ _ | refine Fr.drewL ?_))⟩
    · obtain rfl : k = l.length := by omega
      go_wp2
      go_ret
      exact ⟨rfl, HF.out⟩
set_option maxRecDepth 100000 in
set_option maxHeartbeats 2000000 in
theorem sameC_any (A B : Option Addr) (c d : Nat) (l : List CondS) (e1 e2 : TypeId) (w : World) (hA : Sl w e1 2 A l.length (l.flatMap CondS.vals)) (hB : Sl w e2 2 B l.length (l.flatMap CondS.vals)) (hl : l.length ≤ 140737488355328) :
    Calls Try.prog 69 #[.slice A l.length c, .slice B l.length d] w fun e w' => e = .returned (.bool true) ∧ Fr No w w' := by
  have HA := Lib.hid hA
  have HB := Lib.hid hB
  have hl0 : (0 : Int) ≤ (l.length : Int) := by omega
  have hl1 : (l.length : Int) ≤ 9223372036854775807 := by omega
  clear hA hB hl
  have hne := eqC_neq
  have hgu := eqC_ug
  go_enter Try.func69, Try.ntmps69
  go_wp2
  go_loopg [5] l.length (fun g v5 wr => SLRel w l g v5 wr)
  case atStart => exact ⟨0, by omega, rfl, Fr.refl _ _⟩
  case round =>
    obtain ⟨k, hg, rfl, hf⟩ := hrel
    have HF := Lib.hid hf
    clear hf
    have hk0 : (0 : Int) ≤ (k : Int) := by omega
    by_cases hlt : k < l.length
    · have hk1 : (k : Int) < (l.length : Int) := by omega
      obtain ⟨x, hx⟩ : ∃ x, l[k]? = some x := ⟨_, List.getElem?_eq_getElem hlt⟩
      obtain ⟨b, o, rfl, hb, m0, m1⟩ := cond_at (HA.out.fr0 HF.out) hx
      obtain ⟨b', o', rfl, hb', q0, q1⟩ := cond_at (HB.out.fr0 HF.out) hx
      clear hx
      go_wp2
      refine wp_region_o [(0, 0), (1, 0), (2, 0), (4, 0), (5, 0), (6, 0), (3, 1), (7, 1), (8, 0)] (by kernel_rfl) (by kernel_rfl) ?_
      repeat (first
        | (apply wpO_pure rfl rfl; (focus (intro w'; go_simp; (try rfl); done)); try simp only [Act.put, List.setIfInBounds_toArray, List.set_cons_zero, List.set_cons_succ])
        | (apply wpO_read rfl rfl; (focus (intro w' hf' hs'; (try simp only [World.size_drew, World.cell?_drew, World.size_alloc, World.size_setCell] at hs'); go_simp; (try rfl); done)); try simp only [Act.put, List.setIfInBounds_toArray, List.set_cons_zero, List.set_cons_succ])
        | (apply wpO_skip (by decide) rfl rfl; try simp only [Act.put, List.setIfInBounds_toArray, List.set_cons_zero, List.set_cons_succ]))
      refine wpO_nil ?_
      go_wp2
      go_roundg (l.length - (k + 1))
      case measure => omega
      case rel => exact ⟨k + 1, by omega, by go_num, by have hh := HF.out; (repeat (first | exact Fr.refl _ _ | assumption | refine Fr.drew ?_ | refine Fr.alloc ?_ _ | refine Fr.drewL ?_))⟩
    · obtain rfl : k = l.length := by omega
      go_wp2
      go_ret
      exact ⟨rfl, HF.out⟩
end Go.Proofs.Ytegogggemmcgdaa

/- the reference's Same for states: the walk. -/
namespace Go.Proofs.Ytegogggemmcgdaa
open Go Go.RowKit Go.Proofs

def S2Rel (w0 : World) (n : Nat) (g : Nat) (v5 : Value) (wr : World) : Prop := ∃ k : Nat, k + g = n ∧ v5 = .int .i64 k ∧ Fr No w0 wr
set_option maxRecDepth 100000 in
set_option maxHeartbeats 4000000 in
theorem sameSt_any (x : StS) (A0 A1 A2 A3 B0 B1 B2 B3 : Option Addr) (c0 c1 c2 c3 d0 d1 d2 d3 : Nat) (e0 e1 e2 e3 f0 f1 f2 f3 : TypeId) (w : World) (hA : StSl w x A0 A1 A2 A3 e0 e1 e2 e3) (hB : StSl w x B0 B1 B2 B3 f0 f1 f2 f3) (hL : StLen x) :
    Calls Try.prog 33 #[x.agg A0 A1 A2 A3 c0 c1 c2 c3, x.agg B0 B1 B2 B3 d0 d1 d2 d3] w fun e w' => e = .returned (.bool true) ∧ Fr No w w' := by
  have HA := Lib.hid hA
  have HB := Lib.hid hB
  have HL := Lib.hid hL
  have hr0 : (0 : Int) ≤ (x.res.length : Int) := by omega
  have hr1 : (x.res.length : Int) ≤ 9223372036854775807 := by have := hL.res; omega
  have hh0 : (0 : Int) ≤ (x.held.length : Int) := by omega
  have hh1 : (x.held.length : Int) ≤ 9223372036854775807 := by have := hL.held; omega
  have F0 := ((Fr.refl No w).alloc (Obj.cells (x.cells A0 A1 A2 A3 c0 c1 c2 c3).toArray 62)).alloc (Obj.cells (x.cells B0 B1 B2 B3 d0 d1 d2 d3).toArray 62)
  have G0 := (Blk.new w 62 (x.cells A0 A1 A2 A3 c0 c1 c2 c3)).alloc (Obj.cells (x.cells B0 B1 B2 B3 d0 d1 d2 d3).toArray 62)
  have G1 := Blk.new (w.alloc (Obj.cells (x.cells A0 A1 A2 A3 c0 c1 c2 c3).toArray 62)) 62 (x.cells B0 B1 B2 B3 d0 d1 d2 d3)
  simp only [World.size_alloc] at G1
  have HG0 := Lib.hid G0
  have HG1 := Lib.hid G1
  have HF0 := Lib.hid F0
  have hneR := eqR_neq
  have hugR := eqR_ug
  have hneH := eqH_neq
  have hugH := eqH_ug
  obtain ⟨m0, m1, m2, m3, m4, m5, m6, m7⟩ := G0.cells8
  obtain ⟨n0, n1, n2, n3, n4, n5, n6, n7⟩ := G1.cells8
  have m8 := G0.lt
  have n8 := G1.lt
  clear hA hB hL F0 G0 G1
  go_enter Try.func33, Try.ntmps33
  go_wp2_with (first
    | (go_at_call 68; go_loud (refine (sameJ_any A0 B0 c0 d0 x.jobs _ _ _ (HA.out.jobs.fr0 HF0.out) (HB.out.jobs.fr0 HF0.out) (by have := HL.out.jobs; omega)).mono ?_); rintro e w1 ⟨rfl, hf1⟩; have HF1 := Lib.hid hf1; clear hf1 m0 m1 m2 m3 m4 m5 m6 m7 m8 n0 n1 n2 n3 n4 n5 n6 n7 n8; have P0 := HG0.out.fr HF1.out (fun h => h); have P1 := HG1.out.fr HF1.out (fun h => h); obtain ⟨m0, m1, m2, m3, m4, m5, m6, m7⟩ := P0.cells8; obtain ⟨n0, n1, n2, n3, n4, n5, n6, n7⟩ := P1.cells8; have m8 := P0.lt; have n8 := P1.lt; clear P0 P1)
    | (go_at_call 69; go_loud (refine (sameC_any A1 B1 c1 d1 x.conds _ _ _ ((HA.out.conds.fr0 HF0.out).fr0 HF1.out) ((HB.out.conds.fr0 HF0.out).fr0 HF1.out) (by have := HL.out.conds; omega)).mono ?_); rintro e w2 ⟨rfl, hf2⟩; have HF2 := Lib.hid (HF1.out.trans hf2); clear hf2 m0 m1 m2 m3 m4 m5 m6 m7 m8 n0 n1 n2 n3 n4 n5 n6 n7 n8; have P0 := HG0.out.fr HF2.out (fun h => h); have P1 := HG1.out.fr HF2.out (fun h => h); obtain ⟨m0, m1, m2, m3, m4, m5, m6, m7⟩ := P0.cells8; obtain ⟨n0, n1, n2, n3, n4, n5, n6, n7⟩ := P1.cells8; have m8 := P0.lt; have n8 := P1.lt; clear P0 P1))
  clear m0 m1 m2 m3 m4 m5 m6 m7 m8 n0 n1 n2 n3 n4 n5 n6 n7 n8
  go_loopg [5] x.res.length (fun g v5 wr => S2Rel ((w.alloc (Obj.cells (x.cells A0 A1 A2 A3 c0 c1 c2 c3).toArray 62)).alloc (Obj.cells (x.cells B0 B1 B2 B3 d0 d1 d2 d3).toArray 62)) x.res.length g v5 wr)
  case atStart => exact ⟨0, by omega, rfl, HF2.out⟩
  case round =>
    obtain ⟨k, hg, rfl, hf⟩ := hrel
    have HW := Lib.hid hf
    clear hf
    have hk0 : (0 : Int) ≤ (k : Int) := by omega
    have P0 := HG0.out.fr HW.out (fun h => h)
    have P1 := HG1.out.fr HW.out (fun h => h)
    have p4 := P0.cell 4
    have p5 := P0.cell 5
    have p6 := P0.cell 6
    have p7 := P0.cell 7
    have p8 := P0.lt
    have q4 := P1.cell 4
    have q5 := P1.cell 5
    have q6 := P1.cell 6
    have q7 := P1.cell 7
    have q8 := P1.lt
    simp only [List.getElem?_cons_succ, List.getElem?_cons_zero] at p4 p5 p6 p7 q4 q5 q6 q7
    clear P0 P1
    by_cases hlt : k < x.res.length
    · have hk1 : (k : Int) < (x.res.length : Int) := by omega
      obtain ⟨y, hy⟩ : ∃ y, x.res[k]? = some y := ⟨_, List.getElem?_eq_getElem hlt⟩
      obtain ⟨g1, o1, rfl, hg1, r0, r1, r2⟩ := res_at ((HA.out.res.fr0 HF0.out).fr0 HW.out) hy
      obtain ⟨g2, o2, rfl, hg2, s0, s1, s2⟩ := res_at ((HB.out.res.fr0 HF0.out).fr0 HW.out) hy
      clear hy
      go_wp2
      refine wp_region_o [(0, 0), (2, 0), (5, 0), (7, 0), (1, 1), (6, 1), (3, 0), (8, 0), (4, 1), (9, 1), (10, 0)] (by kernel_rfl) (by kernel_rfl) ?_
      repeat (first
        | (apply wpO_pure rfl rfl; (focus (intro w'; go_simp; (try rfl); done)); try simp only [Act.put, List.setIfInBounds_toArray, List.set_cons_zero, List.set_cons_succ])
        | (apply wpO_read rfl rfl; (focus (intro w' hf' hs'; (try simp only [World.size_drew, World.cell?_drew, World.size_alloc, World.size_setCell] at hs'); go_simp; (try rfl); done)); try simp only [Act.put, List.setIfInBounds_toArray, List.set_cons_zero, List.set_cons_succ])
        | (apply wpO_skip (by decide) rfl rfl; try simp only [Act.put, List.setIfInBounds_toArray, List.set_cons_zero, List.set_cons_succ]))
      refine wpO_nil ?_
      go_wp2
      go_roundg (x.res.length - (k + 1))
      case measure => omega
      case rel => exact ⟨k + 1, by omega, by go_num, by have hh := HW.out; (repeat (first | exact Fr.refl _ _ | assumption | refine Fr.drew ?_ | refine Fr.alloc ?_ _ | refine Fr.drewL ?_))⟩
    · obtain rfl : k = x.res.length := by omega
      go_wp2
      clear p4 p5 p6 p7 p8 q4 q5 q6 q7 q8
      go_loopg [6] x.held.length (fun g v6 wr => S2Rel ((w.alloc (Obj.cells (x.cells A0 A1 A2 A3 c0 c1 c2 c3).toArray 62)).alloc (Obj.cells (x.cells B0 B1 B2 B3 d0 d1 d2 d3).toArray 62)) x.held.length g v6 wr)
      case atStart => exact ⟨0, by omega, rfl, HW.out⟩
      case round =>
        clear HW hk0 hlt hg
        obtain ⟨k, hg, rfl, hf⟩ := hrel
        have HW := Lib.hid hf
        clear hf
        have hk0 : (0 : Int) ≤ (k : Int) := by omega
        have P0 := HG0.out.fr HW.out (fun h => h)
        have P1 := HG1.out.fr HW.out (fun h => h)
        have p4 := P0.cell 4
        have p5 := P0.cell 5
        have p6 := P0.cell 6
        have p7 := P0.cell 7
        have p8 := P0.lt
        have q4 := P1.cell 4
        have q5 := P1.cell 5
        have q6 := P1.cell 6
        have q7 := P1.cell 7
        have q8 := P1.lt
        simp only [List.getElem?_cons_succ, List.getElem?_cons_zero] at p4 p5 p6 p7 q4 q5 q6 q7
        clear P0 P1
        by_cases hlt : k < x.held.length
        · have hk1 : (k : Int) < (x.held.length : Int) := by omega
          obtain ⟨y, hy⟩ : ∃ y, x.held[k]? = some y := ⟨_, List.getElem?_eq_getElem hlt⟩
          obtain ⟨g1, o1, rfl, hg1, r0, r1, r2, r3⟩ := held_at ((HA.out.held.fr0 HF0.out).fr0 HW.out) hy
          obtain ⟨g2, o2, rfl, hg2, s0, s1, s2, s3⟩ := held_at ((HB.out.held.fr0 HF0.out).fr0 HW.out) hy
          clear hy
          go_wp2
          refine wp_region_o [(0, 0), (2, 0), (5, 0), (7, 0), (1, 1), (6, 1), (3, 0), (8, 0), (4, 1), (9, 1), (10, 0)] (by kernel_rfl) (by kernel_rfl) ?_
          repeat (first
            | (apply wpO_pure rfl rfl; (focus (intro w'; go_simp; (try rfl); done)); try simp only [Act.put, List.setIfInBounds_toArray, List.set_cons_zero, List.set_cons_succ])
            | (apply wpO_read rfl rfl; (focus (intro w' hf' hs'; (try simp only [World.size_drew, World.cell?_drew, World.size_alloc, World.size_setCell] at hs'); go_simp; (try rfl); done)); try simp only [Act.put, List.setIfInBounds_toArray, List.set_cons_zero, List.set_cons_succ])
            | (apply wpO_skip (by decide) rfl rfl; try simp only [Act.put, List.setIfInBounds_toArray, List.set_cons_zero, List.set_cons_succ]))
          refine wpO_nil ?_
          go_wp2
          go_roundg (x.held.length - (k + 1))
          case measure => omega
          case rel => exact ⟨k + 1, by omega, by go_num, by have hh := HW.out; (repeat (first | exact Fr.refl _ _ | assumption | refine Fr.drew ?_ | refine Fr.alloc ?_ _ | refine Fr.drewL ?_))⟩
        · obtain rfl : k = x.held.length := by omega
          go_wp2
          go_ret
          exact ⟨rfl, HF0.out.trans HW.out⟩
end Go.Proofs.Ytegogggemmcgdaa

/- the reference's large. -/
namespace Go.Proofs.Ytegogggemmcgdaa
open Go Go.RowKit Go.Proofs

def sizeB (source : ByteArray) (x : StS) : Bool := decide (8192 < source.size) || decide (4096 < x.jobs.length) || decide (4096 < x.conds.length) || decide (4096 < x.res.length) || decide (4096 < x.held.length)
def nameB (x : StS) : Bool := x.conds.any badC || x.res.any badR || x.held.any badH
def largeB (source : ByteArray) (x : StS) : Bool := sizeB source x || nameB x
def LgRel {α : Type} (f : α → Bool) (w0 : World) (l : List α) (b0 : Bool) (g : Nat) (v5 v6 : Value) (wr : World) : Prop :=
  ∃ (k : Nat) (b : Bool), k + g = l.length ∧ v6 = .int .i64 k ∧ v5 = .bool b ∧ b = (b0 || (l.take k).any f) ∧ Fr No w0 wr
theorem any_take {α : Type} (f : α → Bool) {l : List α} {i : Nat} {x : α} (hx : l[i]? = some x) : (l.take (i + 1)).any f = ((l.take i).any f || f x) := by
  rw [List.take_add_one, hx, List.any_append]
  simp
set_option maxRecDepth 100000 in
set_option maxHeartbeats 4000000 in
theorem large_any (source : ByteArray) (x : StS) (A0 A1 A2 A3 : Option Addr) (c0 c1 c2 c3 : Nat) (e0 e1 e2 e3 : TypeId) (w : World) (hS : StSl w x A0 A1 A2 A3 e0 e1 e2 e3) :
    Calls Try.prog 66 #[.string source, x.agg A0 A1 A2 A3 c0 c1 c2 c3] w fun e w' => e = .returned (.bool (largeB source x)) ∧ Fr No w w' := by
  have HS := Lib.hid hS
  have HG := Lib.hid (Blk.new w 62 (x.cells A0 A1 A2 A3 c0 c1 c2 c3))
  have HF0 := Lib.hid ((Fr.refl No w).alloc (Obj.cells (x.cells A0 A1 A2 A3 c0 c1 c2 c3).toArray 62))
  obtain ⟨d0, d1, d2, d3, d4, d5, d6, d7⟩ := HG.out.cells8
  have d8 := HG.out.lt
  clear hS
  by_cases h0 : 8192 < source.size
  · have h0' : (8192 : Int) < (source.size : Int) := by omega
    go_enter Try.func66, Try.ntmps66
    go_wp2
    go_ret
    exact ⟨by simp [largeB, sizeB, *], HF0.out⟩
  by_cases h1 : 4096 < x.jobs.length
  · have h0' : ¬ (8192 : Int) < (source.size : Int) := by omega
    have h1' : (4096 : Int) < (x.jobs.length : Int) := by omega
    go_enter Try.func66, Try.ntmps66
    go_wp2
    go_ret
    exact ⟨by simp [largeB, sizeB, *], HF0.out⟩
  by_cases h2 : 4096 < x.conds.length
  · have h0' : ¬ (8192 : Int) < (source.size : Int) := by omega
    have h1' : ¬ (4096 : Int) < (x.jobs.length : Int) := by omega
    have h2' : (4096 : Int) < (x.conds.length : Int) := by omega
    go_enter Try.func66, Try.ntmps66
    go_wp2
    go_ret
    exact ⟨by simp [largeB, sizeB, *], HF0.out⟩
  by_cases h3 : 4096 < x.res.length
  · have h0' : ¬ (8192 : Int) < (source.size : Int) := by omega
    have h1' : ¬ (4096 : Int) < (x.jobs.length : Int) := by omega
    have h2' : ¬ (4096 : Int) < (x.conds.length : Int) := by omega
    have h3' : (4096 : Int) < (x.res.length : Int) := by omega
    go_enter Try.func66, Try.ntmps66
    go_wp2
    go_ret
    exact ⟨by simp [largeB, sizeB, *], HF0.out⟩
  by_cases h4 : 4096 < x.held.length
  · have h0' : ¬ (8192 : Int) < (source.size : Int) := by omega
    have h1' : ¬ (4096 : Int) < (x.jobs.length : Int) := by omega
    have h2' : ¬ (4096 : Int) < (x.conds.length : Int) := by omega
    have h3' : ¬ (4096 : Int) < (x.res.length : Int) := by omega
    have h4' : (4096 : Int) < (x.held.length : Int) := by omega
    go_enter Try.func66, Try.ntmps66
    go_wp2
    go_ret
    exact ⟨by simp [largeB, sizeB, *], HF0.out⟩
  have h0' : ¬ (8192 : Int) < (source.size : Int) := by omega
  have h1' : ¬ (4096 : Int) < (x.jobs.length : Int) := by omega
  have h2' : ¬ (4096 : Int) < (x.conds.length : Int) := by omega
  have h3' : ¬ (4096 : Int) < (x.res.length : Int) := by omega
  have h4' : ¬ (4096 : Int) < (x.held.length : Int) := by omega
  have HSB := Lib.hid (show sizeB source x = false by simp [sizeB, h0, h1, h2, h3, h4])
  have hc0 : (0 : Int) ≤ (x.conds.length : Int) := by omega
  have hc1 : (x.conds.length : Int) ≤ 4096 := by omega
  have hr0 : (0 : Int) ≤ (x.res.length : Int) := by omega
  have hr1 : (x.res.length : Int) ≤ 4096 := by omega
  have hh0 : (0 : Int) ≤ (x.held.length : Int) := by omega
  have hh1 : (x.held.length : Int) ≤ 4096 := by omega
  clear h0 h1 h2 h3 h4
  go_enter Try.func66, Try.ntmps66
  go_wp2
  clear h0' h1' h2' h3' h4'
  have HW := Lib.hid (Fr.refl No (w.alloc (Obj.cells (x.cells A0 A1 A2 A3 c0 c1 c2 c3).toArray 62)))
  go_loopg [5, 6] x.conds.length (fun g v5 v6 wr => LgRel badC (w.alloc (Obj.cells (x.cells A0 A1 A2 A3 c0 c1 c2 c3).toArray 62)) x.conds false g v5 v6 wr)
  case atStart => exact ⟨0, false, by omega, rfl, rfl, by simp, HW.out⟩
  case round =>
    clear HW d0 d1 d2 d3 d4 d5 d6 d7 d8
    obtain ⟨k, b, hg, rfl, rfl, hb, hf⟩ := hrel
    have HW := Lib.hid hf
    have HBB := Lib.hid hb
    clear hf hb
    have hk0 : (0 : Int) ≤ (k : Int) := by omega
    have P0 := HG.out.fr HW.out (fun h => h)
    obtain ⟨d0, d1, d2, d3, d4, d5, d6, d7⟩ := P0.cells8
    have d8 := P0.lt
    clear P0
    by_cases hlt : k < x.conds.length
    · have hk1 : (k : Int) < (x.conds.length : Int) := by omega
      obtain ⟨y, hy⟩ : ∃ y, x.conds[k]? = some y := ⟨_, List.getElem?_eq_getElem hlt⟩
      obtain ⟨g1, o1, rfl, hg1, k0, k1⟩ := cond_at ((HS.out.conds.fr0 HF0.out).fr0 HW.out) hy
      have HT := Lib.hid (any_take badC hy)
      clear hy
      cases b
      · by_cases hs : 255 < y.name.size
        · have hs1 : (255 : Int) < (y.name.size : Int) := by omega
          have HBD := Lib.hid (show badC y = true by simp [badC, longB, hs])
          clear hs
          go_wp2
          go_roundg (x.conds.length - (k + 1))
          case measure => omega
          case rel => exact ⟨k + 1, true, by omega, by go_num, by first | rfl | (congr 1; simpa using hs1), by rw [HT.out, HBD.out]; simp, HW.out⟩
        · have hs1 : ¬ (255 : Int) < (y.name.size : Int) := by omega
          have HBD := Lib.hid (show badC y = false by simp [badC, longB, hs])
          clear hs
          go_wp2
          go_roundg (x.conds.length - (k + 1))
          case measure => omega
          case rel => exact ⟨k + 1, false, by omega, by go_num, by first | rfl | (congr 1; simpa using hs1), by rw [HT.out, HBD.out, ← Bool.or_assoc, ← HBB.out]; rfl, HW.out⟩
      · go_wp2
        go_roundg (x.conds.length - (k + 1))
        case measure => omega
        case rel => exact ⟨k + 1, true, by omega, by go_num, rfl, by rw [HT.out, ← Bool.or_assoc, ← HBB.out]; rfl, HW.out⟩
    · obtain rfl : k = x.conds.length := by omega
      have hbb := HBB.out
      rw [List.take_length] at hbb
      have HB_1 := Lib.hid hbb
      clear hbb HBB hlt hk0 hg
      go_wp2
      have HZ1 := Lib.hid (show b = x.conds.any badC by rw [HB_1.out]; simp)
      obtain ⟨bb, hbb⟩ : ∃ bb, bb = b := ⟨_, rfl⟩
      rw [← hbb]
      rw [← hbb] at HZ1
      clear hbb HB_1 b
      go_loopg [5, 7] x.res.length (fun g v5 v6 wr => LgRel badR (w.alloc (Obj.cells (x.cells A0 A1 A2 A3 c0 c1 c2 c3).toArray 62)) x.res bb g v5 v6 wr)
      case atStart => exact ⟨0, bb, by omega, rfl, rfl, by simp, HW.out⟩
      case round =>
        clear HW d0 d1 d2 d3 d4 d5 d6 d7 d8
        obtain ⟨k, b, hg, rfl, rfl, hb, hf⟩ := hrel
        have HW := Lib.hid hf
        have HBB := Lib.hid hb
        clear hf hb
        have hk0 : (0 : Int) ≤ (k : Int) := by omega
        have P0 := HG.out.fr HW.out (fun h => h)
        obtain ⟨d0, d1, d2, d3, d4, d5, d6, d7⟩ := P0.cells8
        have d8 := P0.lt
        clear P0
        by_cases hlt : k < x.res.length
        · have hk1 : (k : Int) < (x.res.length : Int) := by omega
          obtain ⟨y, hy⟩ : ∃ y, x.res[k]? = some y := ⟨_, List.getElem?_eq_getElem hlt⟩
          obtain ⟨g1, o1, rfl, hg1, k0, k1, k2⟩ := res_at ((HS.out.res.fr0 HF0.out).fr0 HW.out) hy
          have HT := Lib.hid (any_take badR hy)
          clear hy
          cases b
          · by_cases hs : 255 < y.name.size
            · have hs1 : (255 : Int) < (y.name.size : Int) := by omega
              have HBD := Lib.hid (show badR y = true by simp [badR, longB, hs])
              clear hs
              go_wp2
              go_roundg (x.res.length - (k + 1))
              case measure => omega
              case rel => exact ⟨k + 1, true, by omega, by go_num, by first | rfl | (congr 1; simpa using hs1), by rw [HT.out, HBD.out]; simp, HW.out⟩
            · have hs1 : ¬ (255 : Int) < (y.name.size : Int) := by omega
              have HBD := Lib.hid (show badR y = false by simp [badR, longB, hs])
              clear hs
              go_wp2
              go_roundg (x.res.length - (k + 1))
              case measure => omega
              case rel => exact ⟨k + 1, false, by omega, by go_num, by first | rfl | (congr 1; simpa using hs1), by rw [HT.out, HBD.out, ← Bool.or_assoc, ← HBB.out]; rfl, HW.out⟩
          · go_wp2
            go_roundg (x.res.length - (k + 1))
            case measure => omega
            case rel => exact ⟨k + 1, true, by omega, by go_num, rfl, by rw [HT.out, ← Bool.or_assoc, ← HBB.out]; rfl, HW.out⟩
        · obtain rfl : k = x.res.length := by omega
          have hbb := HBB.out
          rw [List.take_length] at hbb
          have HB_2 := Lib.hid hbb
          clear hbb HBB hlt hk0 hg
          go_wp2
          have HZ2 := Lib.hid (show b = (x.conds.any badC || x.res.any badR) by rw [HB_2.out, HZ1.out])
          obtain ⟨bb, hbb⟩ : ∃ bb, bb = b := ⟨_, rfl⟩
          rw [← hbb]
          rw [← hbb] at HZ2
          clear hbb HB_2 HZ1 b
          go_loopg [5, 8] x.held.length (fun g v5 v6 wr => LgRel badH (w.alloc (Obj.cells (x.cells A0 A1 A2 A3 c0 c1 c2 c3).toArray 62)) x.held bb g v5 v6 wr)
          case atStart => exact ⟨0, bb, by omega, rfl, rfl, by simp, HW.out⟩
          case round =>
            clear HW d0 d1 d2 d3 d4 d5 d6 d7 d8
            obtain ⟨k, b, hg, rfl, rfl, hb, hf⟩ := hrel
            have HW := Lib.hid hf
            have HBB := Lib.hid hb
            clear hf hb
            have hk0 : (0 : Int) ≤ (k : Int) := by omega
            have P0 := HG.out.fr HW.out (fun h => h)
            obtain ⟨d0, d1, d2, d3, d4, d5, d6, d7⟩ := P0.cells8
            have d8 := P0.lt
            clear P0
            by_cases hlt : k < x.held.length
            · have hk1 : (k : Int) < (x.held.length : Int) := by omega
              obtain ⟨y, hy⟩ : ∃ y, x.held[k]? = some y := ⟨_, List.getElem?_eq_getElem hlt⟩
              obtain ⟨g1, o1, rfl, hg1, k0, k1, k2, k3⟩ := held_at ((HS.out.held.fr0 HF0.out).fr0 HW.out) hy
              have HT := Lib.hid (any_take badH hy)
              clear hy
              cases b
              · by_cases hs : 255 < y.name.size
                · have hs1 : (255 : Int) < (y.name.size : Int) := by omega
                  have HBD := Lib.hid (show badH y = true by simp [badH, longB, hs])
                  clear hs
                  go_wp2
                  go_roundg (x.held.length - (k + 1))
                  case measure => omega
                  case rel => exact ⟨k + 1, true, by omega, by go_num, by first | rfl | (congr 1; simpa using hs1), by rw [HT.out, HBD.out]; simp, HW.out⟩
                · have hs1 : ¬ (255 : Int) < (y.name.size : Int) := by omega
                  have HBD := Lib.hid (show badH y = false by simp [badH, longB, hs])
                  clear hs
                  go_wp2
                  go_roundg (x.held.length - (k + 1))
                  case measure => omega
                  case rel => exact ⟨k + 1, false, by omega, by go_num, by first | rfl | (congr 1; simpa using hs1), by rw [HT.out, HBD.out, ← Bool.or_assoc, ← HBB.out]; rfl, HW.out⟩
              · go_wp2
                go_roundg (x.held.length - (k + 1))
                case measure => omega
                case rel => exact ⟨k + 1, true, by omega, by go_num, rfl, by rw [HT.out, ← Bool.or_assoc, ← HBB.out]; rfl, HW.out⟩
            · obtain rfl : k = x.held.length := by omega
              have hbb := HBB.out
              rw [List.take_length] at hbb
              have HB_3 := Lib.hid hbb
              clear hbb HBB hlt hk0 hg
              go_wp2
              go_ret
              refine ⟨?_, HF0.out.trans HW.out⟩
              have e : b = largeB source x := by
                rw [HB_3.out, HZ2.out]
                unfold largeB nameB
                rw [HSB.out]
                rfl
              rw [e]
              rfl
end Go.Proofs.Ytegogggemmcgdaa

/- the reference's PutState. -/
namespace Go.Proofs.Ytegogggemmcgdaa
open Go Go.RowKit Go.Proofs

/-- what may change while bytes are appended: rows of bytes, and whatever is new -/
def SU (base : Nat) (w : World) : Nat → Prop := fun k => U8 base w k ∨ w.heap.size ≤ k
theorem SU.low {base k : Nat} {w : World} (h : k < base) (hb : base ≤ w.heap.size) : ¬ SU base w k := by
  rintro (h1 | h1)
  · have := h1.1; omega
  · omega
theorem SU.blk {base g : Nat} {w : World} {t : TypeId} {cs : List Value} (h : Blk w g t cs) (ht : t ≠ 5) : ¬ SU base w g := by
  rintro (⟨_, cur, fz, hc⟩ | h1)
  · unfold Blk at h
    rw [h] at hc
    injection hc with hc
    injection hc with _ he
    exact ht he
  · have := h.lt; omega
theorem SU.drew {base : Nat} {w : World} : SU base w.drew = SU base w := rfl
theorem SU.step {base : Nat} {w0 w1 w2 : World} (h0 : Fr (SU base w0) w0 w1) (h : Fr (U8 base w1) w1 w2) : Fr (SU base w0) w1 w2 := h.mono fun k hk hu => by
  by_cases hk0 : k < w0.heap.size
  · by_cases hs : SU base w0 k
    · exact hs
    · refine .inl ⟨hu.1, ?_⟩
      obtain ⟨_, cur, fz, hc⟩ := hu
      exact ⟨cur, fz, by rw [← h0.block k hk0 hs]; exact hc⟩
  · exact .inr (by omega)
/-- bytes that are appended within a region that began at w0 -/
def RB (w0 : World) (base : Nat) (l : Bs) (v : Value) (w : World) : Prop := Buf w base v l ∧ Fr (SU base w0) w0 w
section
variable {w0 w : World} {base : Nat} {l : Bs} {v : Value}
theorem RB.start (h : Buf w base v l) : RB w base l v w.drew := ⟨h, (Fr.refl _ _).drew⟩
theorem rb_num (n : Int) (h : RB w0 base l v w) (hb : base ≤ w0.heap.size) (hl : l.length ≤ 150000000000000) :
    Calls Try.prog 61 #[v, .int .i64 n] w fun e w' => ∃ v', e = .returned v' ∧ RB w0 base (l ++ leB (u64N n) 8) v' w' ∧ Fr (SU base w0) w w' := by
  refine (refNum_any base v l n w h.1 (Nat.le_trans hb h.2.size) hl).mono ?_
  rintro e w1 ⟨v1, rfl, ho, hf⟩
  exact ⟨v1, rfl, ⟨ho, h.2.trans (SU.step h.2 hf)⟩, SU.step h.2 hf⟩
theorem rb_text (s : ByteArray) (h : RB w0 base l v w) (hb : base ≤ w0.heap.size) (hl : l.length + s.size + 8 ≤ 150000000000000) :
    Calls Try.prog 62 #[v, .string s] w fun e w' => ∃ v', e = .returned v' ∧ RB w0 base (l ++ textB s) v' w' ∧ Fr (SU base w0) w w' := by
  refine (refText_any base v l s w h.1 (Nat.le_trans hb h.2.size) hl).mono ?_
  rintro e w1 ⟨v1, rfl, ho, hf⟩
  exact ⟨v1, rfl, ⟨ho, h.2.trans (SU.step h.2 hf)⟩, SU.step h.2 hf⟩
theorem rb_truth (is : Bool) (h : RB w0 base l v w) (hb : base ≤ w0.heap.size) (hl : l.length ≤ 150000000000000) :
    Calls Try.prog 67 #[v, .bool is] w fun e w' => ∃ v', e = .returned v' ∧ RB w0 base (l ++ bitB is) v' w' ∧ Fr (SU base w0) w w' := by
  refine (refTruth_any base v l is w h.1 (Nat.le_trans hb h.2.size) hl).mono ?_
  rintro e w1 ⟨v1, rfl, ho, hf⟩
  exact ⟨v1, rfl, ⟨ho, h.2.trans (SU.step h.2 hf)⟩, SU.step h.2 hf⟩
end
theorem own_nilbuf {w : World} {base : Nat} : Buf w base (.slice none 0 0) [] := World.ownsRow_nil _ _ _ _
/-- a state that is being written -/
structure PS (w : World) (xb : Nat) (cs : List Value) (l : Bs) (v : Value) (wr : World) : Prop where
  buf : Buf wr w.heap.size v l
  blk : Blk wr xb 62 cs
  fr : Fr No w wr
section
variable {w wr w0 w1 : World} {xb : Nat} {cs : List Value} {l l1 : Bs} {v v1 : Value}
theorem PS.fr0 (h : PS w xb cs l v wr) (hf : Fr No wr w1) : PS w xb cs l v w1 := ⟨own_fr0 h.buf hf, h.blk.fr hf (fun h => h), h.fr.trans hf⟩
theorem PS.rb (h : PS w xb cs l v wr) (hr : RB wr w.heap.size l1 v1 w1) : PS w xb cs l1 v1 w1 :=
  ⟨hr.1, h.blk.fr hr.2 (SU.blk h.blk (by decide)), h.fr.step hr.2 fun i hi => .inr (by
    rcases hi with h1 | h1
    · exact h1.1
    · exact Nat.le_trans h.fr.size h1)⟩
theorem PS.u8 (h : PS w xb cs l v wr) (hb : Buf w1 w.heap.size v1 l1) (hf : Fr (U8 w.heap.size wr) wr w1) : PS w xb cs l1 v1 w1 :=
  ⟨hb, h.blk.u8 hf (by decide), U8.since h.fr hf⟩
end
theorem stPre_flat (source : ByteArray) (x : StS) : [87] ++ textB source ++ leB (u64N x.clock) 8 ++ leB (u64N x.day) 8 ++ leB (u64N x.id) 8 ++ leB (u64N x.run) 8 = stPre source x [87] := by
  simp only [stPre, numB_cons, numB_nil, List.append_assoc, List.append_nil]
theorem job_flat (l : Bs) (y : JSt) : l ++ leB (u64N y.id) 8 ++ leB (u64N y.job) 8 ++ leB (u64N y.day) 8 ++ leB (u64N y.state) 8 ++ bitB y.hold ++ bitB y.force ++ leB (u64N y.runs) 8 ++ leB (u64N y.tries) 8 ++ leB (u64N y.run) 8 ++ leB (u64N y.at_) 8 = l ++ bytesJ y := by
  simp only [bytesJ, numB_cons, numB_nil, List.append_assoc, List.append_nil]
theorem cond_flat (l : Bs) (y : CondS) : l ++ textB y.name ++ leB (u64N y.day) 8 = l ++ bytesC y := by simp only [bytesC, List.append_assoc]
theorem res_flat (l : Bs) (y : ResS) : l ++ textB y.name ++ leB (u64N y.units) 8 ++ bitB y.lock = l ++ bytesR y := by simp only [bytesR, List.append_assoc]
theorem held_flat (l : Bs) (y : HeldS) : l ++ leB (u64N y.owner) 8 ++ textB y.name ++ leB (u64N y.n) 8 ++ leB (u64N y.mode) 8 = l ++ bytesH y := by simp only [bytesH, List.append_assoc]
def RSRel {α : Type} (w : World) (xb : Nat) (cs : List Value) (bytes : α → Bs) (pre : Bs) (xs : List α) (g : Nat) (v6 v7 : Value) (wr : World) : Prop :=
  ∃ (i : Nat) (v : Value), i + g = xs.length ∧ v7 = .int .i64 i ∧ v = v6 ∧ PS w xb cs (pre ++ (xs.take i).flatMap bytes) v wr
def stAll (source : ByteArray) (x : StS) : Bs :=
  stPre source x [87] ++ leB (u64N x.jobs.length) 8 ++ x.jobs.flatMap bytesJ ++ leB (u64N x.conds.length) 8 ++ x.conds.flatMap bytesC ++ leB (u64N x.res.length) 8 ++ x.res.flatMap bytesR ++ leB (u64N x.held.length) 8 ++ x.held.flatMap bytesH
def stBad (source : ByteArray) (x : StS) : Bool := largeB source x || decide (60000 < (stAll source x).length)
theorem flat_le {α : Type} (bytes : α → Bs) (m : Nat) : ∀ (xs : List α) (i : Nat), (∀ y ∈ xs, (bytes y).length ≤ m) → ((xs.take i).flatMap bytes).length ≤ m * xs.length
  | [], i, _ => by simp
  | x :: xs, 0, _ => by simp
  | x :: xs, i + 1, h => by
    have := flat_le bytes m xs i fun y hy => h y (List.mem_cons_of_mem _ hy)
    have h1 := h x List.mem_cons_self
    simp only [List.take_succ_cons, List.flatMap_cons, List.length_append, List.length_cons, Nat.mul_add, Nat.mul_one]
    omega
theorem flat_le' {α : Type} (bytes : α → Bs) (m : Nat) (xs : List α) (h : ∀ y ∈ xs, (bytes y).length ≤ m) : (xs.flatMap bytes).length ≤ m * xs.length := by
  have := flat_le bytes m xs xs.length h
  rwa [List.take_length] at this
theorem largeB_no {source : ByteArray} {x : StS} (h : largeB source x = false) : (source.size ≤ 8192 ∧ x.jobs.length ≤ 4096 ∧ x.conds.length ≤ 4096 ∧ x.res.length ≤ 4096 ∧ x.held.length ≤ 4096) ∧
    (∀ y ∈ x.conds, y.name.size ≤ 255) ∧ (∀ y ∈ x.res, y.name.size ≤ 255) ∧ (∀ y ∈ x.held, y.name.size ≤ 255) := by
  simp only [largeB, sizeB, nameB, Bool.or_eq_false_iff, decide_eq_false_iff_not, List.any_eq_false] at h
  obtain ⟨⟨⟨⟨⟨h1, h2⟩, h3⟩, h4⟩, h5⟩, ⟨h6, h7⟩, h8⟩ := h
  refine ⟨⟨by omega, by omega, by omega, by omega, by omega⟩, fun y hy => longB_no ?_, fun y hy => longB_no ?_, fun y hy => longB_no ?_⟩
  · have := h6 y hy; simpa [badC] using this
  · have := h7 y hy; simpa [badR] using this
  · have := h8 y hy; simpa [badH] using this
set_option maxRecDepth 100000 in
set_option maxHeartbeats 4000000 in
theorem refPutState_large (source : ByteArray) (x : StS) (A0 A1 A2 A3 : Option Addr) (c0 c1 c2 c3 : Nat) (e0 e1 e2 e3 : TypeId) (w : World) (hS : StSl w x A0 A1 A2 A3 e0 e1 e2 e3) (hL : StLen x) (hB : largeB source x = true) :
    Calls Try.prog 32 #[.string source, .agg #[.int .i64 x.clock, .int .i64 x.day, .int .i64 x.id, .int .i64 x.run, .slice A0 x.jobs.length c0, .slice A1 x.conds.length c1, .slice A2 x.res.length c2, .slice A3 x.held.length c3]] w (RefPutW [] 3 w) := by
  have HS := Lib.hid hS
  have HB0 := Lib.hid (Blk.new w 62 (x.cells A0 A1 A2 A3 c0 c1 c2 c3))
  have HF0 := Lib.hid ((Fr.refl No w).alloc (Obj.cells (x.cells A0 A1 A2 A3 c0 c1 c2 c3).toArray 62))
  have HLG := Lib.hid (large_any source x A0 A1 A2 A3 c0 c1 c2 c3 e0 e1 e2 e3 _ ⟨HS.out.jobs.fr0 HF0.out, HS.out.conds.fr0 HF0.out, HS.out.res.fr0 HF0.out, HS.out.held.fr0 HF0.out⟩)
  rw [hB] at HLG
  obtain ⟨n0, n1, n2, n3, n4, n5, n6, n7⟩ := HB0.out.cells8
  have n8 := HB0.out.lt
  clear hS hB
  go_enter Try.func32, Try.ntmps32
  go_wp2_with (go_at_call 66; refine HLG.out.mono ?_; rintro e w1 ⟨rfl, hf1⟩; have HF1 := Lib.hid (HF0.out.trans hf1); clear hf1)
  go_ret2
  exact ⟨none, 0, by rfl, World.ownsRow_nil _ _ _ _, HF1.out⟩

def cutB (l : Bs) : Bs := if 60000 < l.length then [] else l
def errB (l : Bs) : Int := if 60000 < l.length then 3 else 0
theorem cutB_long {l : Bs} (h : 60000 < l.length) : cutB l = [] ∧ errB l = 3 := ⟨if_pos h, if_pos h⟩
theorem cutB_fit {l : Bs} (h : ¬ 60000 < l.length) : cutB l = l ∧ errB l = 0 := ⟨if_neg h, if_neg h⟩
attribute [irreducible] cutB errB
set_option maxRecDepth 100000 in
set_option maxHeartbeats 16000000 in
theorem refPutState_fits (source : ByteArray) (x : StS) (A0 A1 A2 A3 : Option Addr) (c0 c1 c2 c3 : Nat) (e0 e1 e2 e3 : TypeId) (w : World) (hS : StSl w x A0 A1 A2 A3 e0 e1 e2 e3) (hL : StLen x) (hB : largeB source x = false) :
    Calls Try.prog 32 #[.string source, .agg #[.int .i64 x.clock, .int .i64 x.day, .int .i64 x.id, .int .i64 x.run, .slice A0 x.jobs.length c0, .slice A1 x.conds.length c1, .slice A2 x.res.length c2, .slice A3 x.held.length c3]] w (RefPutW (cutB (stAll source x)) (errB (stAll source x)) w) := by
  have HS := Lib.hid hS
  have HB0 := Lib.hid (Blk.new w 62 (x.cells A0 A1 A2 A3 c0 c1 c2 c3))
  have HF0 := Lib.hid ((Fr.refl No w).alloc (Obj.cells (x.cells A0 A1 A2 A3 c0 c1 c2 c3).toArray 62))
  have HLG := Lib.hid (large_any source x A0 A1 A2 A3 c0 c1 c2 c3 e0 e1 e2 e3 _ ⟨HS.out.jobs.fr0 HF0.out, HS.out.conds.fr0 HF0.out, HS.out.res.fr0 HF0.out, HS.out.held.fr0 HF0.out⟩)
  rw [hB] at HLG
  have HN := Lib.hid (largeB_no hB)
  obtain ⟨L, hLL⟩ : ∃ L, L = stAll source x := ⟨_, rfl⟩
  rw [← hLL]
  have HLL := Lib.hid hLL
  have HZ : Hid (w.heap.size < (w.alloc (Obj.cells (x.cells A0 A1 A2 A3 c0 c1 c2 c3).toArray 62)).heap.size) := Lib.hid (by simp)
  have hj0 : (0 : Int) ≤ (x.jobs.length : Int) := by omega
  have hj1 : (x.jobs.length : Int) ≤ 4096 := by have := HN.out.1; omega
  have hc0 : (0 : Int) ≤ (x.conds.length : Int) := by omega
  have hc1 : (x.conds.length : Int) ≤ 4096 := by have := HN.out.1; omega
  have hr0 : (0 : Int) ≤ (x.res.length : Int) := by omega
  have hr1 : (x.res.length : Int) ≤ 4096 := by have := HN.out.1; omega
  have hh0 : (0 : Int) ≤ (x.held.length : Int) := by omega
  have hh1 : (x.held.length : Int) ≤ 4096 := by have := HN.out.1; omega
  obtain ⟨n0, n1, n2, n3, n4, n5, n6, n7⟩ := HB0.out.cells8
  have n8 := HB0.out.lt
  clear hS hB hL hLL
  go_enter Try.func32, Try.ntmps32
  go_wp2_with (first
    | (go_at_call 62; refine (refText_any w.heap.size _ [87] source _ HO1.out (by have := HF1.out.size; simp only [World.size_alloc]; omega) (by have := HN.out.1; simp only [List.length_cons, List.length_nil]; omega)).mono ?_; rintro e w2 ⟨v2, rfl, ho2, hf2⟩; have HP2 := Lib.hid ((PS.fr0 ⟨own_nilbuf, HB1.out, HF1.out⟩ ((Fr.refl No w1).alloc _) : PS w w.heap.size _ [] (.slice none 0 0) _).u8 ho2 hf2); clear ho2 hf2 n0 n1 n2 n3 n4 n5 n6 n7 n8; obtain ⟨n0, n1, n2, n3, n4, n5, n6, n7⟩ := HP2.out.blk.cells8; have n8 := HP2.out.blk.lt)
    | (go_at_call 66; refine HLG.out.mono ?_; rintro e w1 ⟨rfl, hf1⟩; have HF1 := Lib.hid (HF0.out.trans hf1); have HB1 := Lib.hid (HB0.out.fr hf1 (fun h => h)); have HO1 : Hid (Buf (w1.alloc (Obj.cells #[.int .u8 87] 5)) w.heap.size (.slice (some ⟨w1.heap.size, 0, none⟩) 1 1) [87]) := Lib.hid (World.ownsRow_lit (base := w.heap.size) (e := 5) (size := 1) w1 #[.int .u8 87] 1 HF1.out.size (by decide) rfl); obtain ⟨n0, n1, n2, n3, n4, n5, n6, n7⟩ := HB1.out.cells8; have n8 := HB1.out.lt; clear hf1))
  have nS := SU.blk (base := w.heap.size) HP2.out.blk (by decide)
  refine OS.wp_region_o (SU w.heap.size (w2)) [(0, 0), (1, 0), (4, 0), (7, 0), (10, 0), (2, 1), (5, 1), (8, 1), (11, 1), (3, 2), (6, 2), (9, 2), (12, 2), (13, 0)] (by kernel_rfl) (by kernel_rfl) ?_
  repeat (first
    | (apply OS.wpO_pure rfl rfl; (focus (intro w'; go_simp; (try rfl); done)); try simp only [Act.put, List.setIfInBounds_toArray, List.set_cons_zero, List.set_cons_succ])
    | (apply OS.wpO_read rfl rfl; (focus (intro w' hf' hs'; (try simp only [World.size_drew, World.cell?_drew, World.size_alloc, World.size_setCell, not_false_eq_true, forall_const] at hs'); go_simp; (try rfl); done)); try simp only [Act.put, List.setIfInBounds_toArray, List.set_cons_zero, List.set_cons_succ])
    | (apply OS.wpO_skip (by decide) rfl rfl; try simp only [Act.put, List.setIfInBounds_toArray, List.set_cons_zero, List.set_cons_succ]))
  obtain ⟨l2, hl2⟩ : ∃ l2, l2 = [87] ++ textB source := ⟨_, rfl⟩
  rw [← hl2] at HP2
  have HLE := Lib.hid (show l2.length ≤ 8210 by have := HN.out.1; rw [hl2]; simp only [List.length_append, textB_length, List.length_cons, List.length_nil]; omega)
  have HD2 := Lib.hid hl2
  clear hl2
  have HB2 := Lib.hid (HP2.out.fr.size)
  refine OS.wpO_loudE rfl fun K hK => ?_
  go_simp
  refine (rb_num x.clock (RB.start HP2.out.buf) HB2.out (by (try simp only [List.length_append, leB_length, textB_length, bitB_length, List.length_cons, List.length_nil]); have := HLE.out; omega)).mono ?_
  rintro e w3 ⟨v3, rfl, hr_v3, hf_v3⟩
  have HR_v3 := Lib.hid hr_v3
  refine hK _ _ ⟨hf_v3, ?_⟩
  clear hK K hr_v3 hf_v3
  try simp only [Act.put, List.setIfInBounds_toArray, List.set_cons_zero, List.set_cons_succ]
  repeat (first
    | (apply OS.wpO_pure rfl rfl; (focus (intro w'; go_simp; (try rfl); done)); try simp only [Act.put, List.setIfInBounds_toArray, List.set_cons_zero, List.set_cons_succ])
    | (apply OS.wpO_read rfl rfl; (focus (intro w' hf' hs'; (try simp only [World.size_drew, World.cell?_drew, World.size_alloc, World.size_setCell, not_false_eq_true, forall_const] at hs'); go_simp; (try rfl); done)); try simp only [Act.put, List.setIfInBounds_toArray, List.set_cons_zero, List.set_cons_succ])
    | (apply OS.wpO_skip (by decide) rfl rfl; try simp only [Act.put, List.setIfInBounds_toArray, List.set_cons_zero, List.set_cons_succ]))
  refine OS.wpO_loudE rfl fun K hK => ?_
  go_simp
  refine (rb_num x.day HR_v3.out HB2.out (by (try simp only [List.length_append, leB_length, textB_length, bitB_length, List.length_cons, List.length_nil]); have := HLE.out; omega)).mono ?_
  rintro e w4 ⟨v4, rfl, hr_v4, hf_v4⟩
  have HR_v4 := Lib.hid hr_v4
  refine hK _ _ ⟨hf_v4, ?_⟩
  clear hK K hr_v4 hf_v4
  try simp only [Act.put, List.setIfInBounds_toArray, List.set_cons_zero, List.set_cons_succ]
  repeat (first
    | (apply OS.wpO_pure rfl rfl; (focus (intro w'; go_simp; (try rfl); done)); try simp only [Act.put, List.setIfInBounds_toArray, List.set_cons_zero, List.set_cons_succ])
    | (apply OS.wpO_read rfl rfl; (focus (intro w' hf' hs'; (try simp only [World.size_drew, World.cell?_drew, World.size_alloc, World.size_setCell, not_false_eq_true, forall_const] at hs'); go_simp; (try rfl); done)); try simp only [Act.put, List.setIfInBounds_toArray, List.set_cons_zero, List.set_cons_succ])
    | (apply OS.wpO_skip (by decide) rfl rfl; try simp only [Act.put, List.setIfInBounds_toArray, List.set_cons_zero, List.set_cons_succ]))
  refine OS.wpO_loudE rfl fun K hK => ?_
  go_simp
  refine (rb_num x.id HR_v4.out HB2.out (by (try simp only [List.length_append, leB_length, textB_length, bitB_length, List.length_cons, List.length_nil]); have := HLE.out; omega)).mono ?_
  rintro e w5 ⟨v5, rfl, hr_v5, hf_v5⟩
  have HR_v5 := Lib.hid hr_v5
  refine hK _ _ ⟨hf_v5, ?_⟩
  clear hK K hr_v5 hf_v5
  try simp only [Act.put, List.setIfInBounds_toArray, List.set_cons_zero, List.set_cons_succ]
  repeat (first
    | (apply OS.wpO_pure rfl rfl; (focus (intro w'; go_simp; (try rfl); done)); try simp only [Act.put, List.setIfInBounds_toArray, List.set_cons_zero, List.set_cons_succ])
    | (apply OS.wpO_read rfl rfl; (focus (intro w' hf' hs'; (try simp only [World.size_drew, World.cell?_drew, World.size_alloc, World.size_setCell, not_false_eq_true, forall_const] at hs'); go_simp; (try rfl); done)); try simp only [Act.put, List.setIfInBounds_toArray, List.set_cons_zero, List.set_cons_succ])
    | (apply OS.wpO_skip (by decide) rfl rfl; try simp only [Act.put, List.setIfInBounds_toArray, List.set_cons_zero, List.set_cons_succ]))
  refine OS.wpO_loudE rfl fun K hK => ?_
  go_simp
  refine (rb_num x.run HR_v5.out HB2.out (by (try simp only [List.length_append, leB_length, textB_length, bitB_length, List.length_cons, List.length_nil]); have := HLE.out; omega)).mono ?_
  rintro e w6 ⟨v6, rfl, hr_v6, hf_v6⟩
  have HR_v6 := Lib.hid hr_v6
  refine hK _ _ ⟨hf_v6, ?_⟩
  clear hK K hr_v6 hf_v6
  try simp only [Act.put, List.setIfInBounds_toArray, List.set_cons_zero, List.set_cons_succ]
  repeat (first
    | (apply OS.wpO_pure rfl rfl; (focus (intro w'; go_simp; (try rfl); done)); try simp only [Act.put, List.setIfInBounds_toArray, List.set_cons_zero, List.set_cons_succ])
    | (apply OS.wpO_read rfl rfl; (focus (intro w' hf' hs'; (try simp only [World.size_drew, World.cell?_drew, World.size_alloc, World.size_setCell, not_false_eq_true, forall_const] at hs'); go_simp; (try rfl); done)); try simp only [Act.put, List.setIfInBounds_toArray, List.set_cons_zero, List.set_cons_succ])
    | (apply OS.wpO_skip (by decide) rfl rfl; try simp only [Act.put, List.setIfInBounds_toArray, List.set_cons_zero, List.set_cons_succ]))
  refine OS.wpO_nil ?_
  have hp6 := HP2.out.rb HR_v6.out
  rw [HD2.out, stPre_flat] at hp6
  have HP6 := Lib.hid hp6
  clear HR_v3 HR_v4 HR_v5 HR_v6 hp6 HLE HB2 HP2 HB1 HO1 HLG HD2 nS
  clear n0 n1 n2 n3 n4 n5 n6 n7 n8
  have n0 := HP6.out.blk.cell 0
  have n1 := HP6.out.blk.cell 1
  have n2 := HP6.out.blk.cell 2
  have n3 := HP6.out.blk.cell 3
  have n4 := HP6.out.blk.cell 4
  have n5 := HP6.out.blk.cell 5
  have n6 := HP6.out.blk.cell 6
  have n7 := HP6.out.blk.cell 7
  have n8 := HP6.out.blk.lt
  simp only [List.getElem?_cons_zero, List.getElem?_cons_succ] at n0 n1 n2 n3 n4 n5 n6 n7
  have HLE := Lib.hid (show (stPre source x [87]).length ≤ 8240 by have := HN.out.1; rw [stPre_length]; simp only [List.length_cons, List.length_nil]; omega)
  go_wp2_with (go_at_call 61; refine (refNum_any w.heap.size _ _ x.jobs.length _ HP6.out.buf HP6.out.fr.size (by (try simp only [List.length_append, leB_length, textB_length, bitB_length, List.length_cons, List.length_nil]); have := HLE.out; omega)).mono ?_; rintro e w7 ⟨v7, rfl, ho7, hf7⟩; have HP_v7 := Lib.hid (HP6.out.u8 ho7 hf7); clear ho7 hf7)
  obtain ⟨P1, hP1⟩ : ∃ P1, P1 = stPre source x [87] ++ leB (u64N x.jobs.length) 8 := ⟨_, rfl⟩
  rw [← hP1] at HP_v7
  have HL1 := Lib.hid (show P1.length ≤ 10000 by rw [hP1]; simp only [List.length_append, leB_length]; have := HLE.out; omega)
  have HD1 := Lib.hid hP1
  clear hP1 HLE HP6
  clear n0 n1 n2 n3 n4 n5 n6 n7 n8
  go_loopg [6, 7] x.jobs.length (fun g v6 v7 wr => RSRel w w.heap.size (x.cells A0 A1 A2 A3 c0 c1 c2 c3) bytesJ P1 x.jobs g v6 v7 wr)
  case atStart => exact ⟨0, v7, by omega, rfl, rfl, by simpa using HP_v7.out⟩
  case round =>
    clear HP_v7
    obtain ⟨i, v, hgi, rfl, rfl, hps⟩ := hrel
    have HP := Lib.hid hps
    have n0 := HP.out.blk.cell 0
    have n1 := HP.out.blk.cell 1
    have n2 := HP.out.blk.cell 2
    have n3 := HP.out.blk.cell 3
    have n4 := HP.out.blk.cell 4
    have n5 := HP.out.blk.cell 5
    have n6 := HP.out.blk.cell 6
    have n7 := HP.out.blk.cell 7
    have n8 := HP.out.blk.lt
    simp only [List.getElem?_cons_zero, List.getElem?_cons_succ] at n0 n1 n2 n3 n4 n5 n6 n7
    have hi0 : (0 : Int) ≤ (i : Int) := by omega
    clear hps
    by_cases hi : i < x.jobs.length
    · have hi1 : (i : Int) < (x.jobs.length : Int) := by omega
      obtain ⟨y, hy⟩ : ∃ y, x.jobs[i]? = some y := ⟨_, List.getElem?_eq_getElem hi⟩
      obtain ⟨g, oo, rfl, hg1, k0, k1, k2, k3, k4, k5, k6, k7, k8, k9⟩ := job_at (HS.out.jobs.fr0 HP.out.fr) hy
      have HT := Lib.hid (take_flat bytesJ hy)
      have hle := flat_le bytesJ 66 x.jobs i (fun y _ => by rw [bytesJ_length]; omega)
      obtain ⟨l, hl⟩ : ∃ l, l = P1 ++ (x.jobs.take i).flatMap bytesJ := ⟨_, rfl⟩
      have HLE := Lib.hid (show l.length ≤ 10000000 by rw [hl, List.length_append]; have := HL1.out; have := HN.out.1; omega)
      rw [← hl] at HP
      have HDL := Lib.hid hl
      clear hy hl hle
      go_wp2
      have HJ := Lib.hid (Blk.new wr 118 y.vals)
      have HPA := Lib.hid (HP.out.fr0 ((Fr.refl No wr).alloc (Obj.cells y.vals.toArray 118)))
      clear HP k0 k1 k2 k3 k4 k5 k6 k7 k8 k9 hg1
      clear n0 n1 n2 n3 n4 n5 n6 n7 n8
      have m0 := HJ.out.cell 0
      have m1 := HJ.out.cell 1
      have m2 := HJ.out.cell 2
      have m3 := HJ.out.cell 3
      have m4 := HJ.out.cell 4
      have m5 := HJ.out.cell 5
      have m6 := HJ.out.cell 6
      have m7 := HJ.out.cell 7
      have m8 := HJ.out.cell 8
      have m9 := HJ.out.cell 9
      have ml := HJ.out.lt
      simp only [List.getElem?_cons_zero, List.getElem?_cons_succ] at m0 m1 m2 m3 m4 m5 m6 m7 m8 m9
      have HB2 := Lib.hid (HPA.out.fr.size)
      have nS := SU.blk (base := w.heap.size) HJ.out (by decide)
      refine OS.wp_region_o (SU w.heap.size (wr.alloc (Obj.cells y.vals.toArray 118))) [(0, 0), (1, 0), (4, 0), (7, 0), (10, 0), (2, 1), (5, 1), (8, 1), (11, 1), (3, 2), (6, 2), (9, 2), (12, 2), (13, 0)] (by kernel_rfl) (by kernel_rfl) ?_
      repeat (first
        | (apply OS.wpO_pure rfl rfl; (focus (intro w'; go_simp; (try rfl); done)); try simp only [Act.put, List.setIfInBounds_toArray, List.set_cons_zero, List.set_cons_succ])
        | (apply OS.wpO_read rfl rfl; (focus (intro w' hf' hs'; (try simp only [World.size_drew, World.cell?_drew, World.size_alloc, World.size_setCell, not_false_eq_true, forall_const] at hs'); go_simp; (try rfl); done)); try simp only [Act.put, List.setIfInBounds_toArray, List.set_cons_zero, List.set_cons_succ])
        | (apply OS.wpO_skip (by decide) rfl rfl; try simp only [Act.put, List.setIfInBounds_toArray, List.set_cons_zero, List.set_cons_succ]))
      refine OS.wpO_loudE rfl fun K hK => ?_
      go_simp
      refine (rb_num y.id (RB.start HPA.out.buf) HB2.out (by (try simp only [List.length_append, leB_length, textB_length, bitB_length, List.length_cons, List.length_nil]); have := HLE.out; omega)).mono ?_
      rintro e w3 ⟨v3, rfl, hr_v3, hf_v3⟩
      have HR_v3 := Lib.hid hr_v3
      refine hK _ _ ⟨hf_v3, ?_⟩
      clear hK K hr_v3 hf_v3
      try simp only [Act.put, List.setIfInBounds_toArray, List.set_cons_zero, List.set_cons_succ]
      repeat (first
        | (apply OS.wpO_pure rfl rfl; (focus (intro w'; go_simp; (try rfl); done)); try simp only [Act.put, List.setIfInBounds_toArray, List.set_cons_zero, List.set_cons_succ])
        | (apply OS.wpO_read rfl rfl; (focus (intro w' hf' hs'; (try simp only [World.size_drew, World.cell?_drew, World.size_alloc, World.size_setCell, not_false_eq_true, forall_const] at hs'); go_simp; (try rfl); done)); try simp only [Act.put, List.setIfInBounds_toArray, List.set_cons_zero, List.set_cons_succ])
        | (apply OS.wpO_skip (by decide) rfl rfl; try simp only [Act.put, List.setIfInBounds_toArray, List.set_cons_zero, List.set_cons_succ]))
      refine OS.wpO_loudE rfl fun K hK => ?_
      go_simp
      refine (rb_num y.job HR_v3.out HB2.out (by (try simp only [List.length_append, leB_length, textB_length, bitB_length, List.length_cons, List.length_nil]); have := HLE.out; omega)).mono ?_
      rintro e w4 ⟨v4, rfl, hr_v4, hf_v4⟩
      have HR_v4 := Lib.hid hr_v4
      refine hK _ _ ⟨hf_v4, ?_⟩
      clear hK K hr_v4 hf_v4
      try simp only [Act.put, List.setIfInBounds_toArray, List.set_cons_zero, List.set_cons_succ]
      repeat (first
        | (apply OS.wpO_pure rfl rfl; (focus (intro w'; go_simp; (try rfl); done)); try simp only [Act.put, List.setIfInBounds_toArray, List.set_cons_zero, List.set_cons_succ])
        | (apply OS.wpO_read rfl rfl; (focus (intro w' hf' hs'; (try simp only [World.size_drew, World.cell?_drew, World.size_alloc, World.size_setCell, not_false_eq_true, forall_const] at hs'); go_simp; (try rfl); done)); try simp only [Act.put, List.setIfInBounds_toArray, List.set_cons_zero, List.set_cons_succ])
        | (apply OS.wpO_skip (by decide) rfl rfl; try simp only [Act.put, List.setIfInBounds_toArray, List.set_cons_zero, List.set_cons_succ]))
      refine OS.wpO_loudE rfl fun K hK => ?_
      go_simp
      refine (rb_num y.day HR_v4.out HB2.out (by (try simp only [List.length_append, leB_length, textB_length, bitB_length, List.length_cons, List.length_nil]); have := HLE.out; omega)).mono ?_
      rintro e w5 ⟨v5, rfl, hr_v5, hf_v5⟩
      have HR_v5 := Lib.hid hr_v5
      refine hK _ _ ⟨hf_v5, ?_⟩
      clear hK K hr_v5 hf_v5
      try simp only [Act.put, List.setIfInBounds_toArray, List.set_cons_zero, List.set_cons_succ]
      repeat (first
        | (apply OS.wpO_pure rfl rfl; (focus (intro w'; go_simp; (try rfl); done)); try simp only [Act.put, List.setIfInBounds_toArray, List.set_cons_zero, List.set_cons_succ])
        | (apply OS.wpO_read rfl rfl; (focus (intro w' hf' hs'; (try simp only [World.size_drew, World.cell?_drew, World.size_alloc, World.size_setCell, not_false_eq_true, forall_const] at hs'); go_simp; (try rfl); done)); try simp only [Act.put, List.setIfInBounds_toArray, List.set_cons_zero, List.set_cons_succ])
        | (apply OS.wpO_skip (by decide) rfl rfl; try simp only [Act.put, List.setIfInBounds_toArray, List.set_cons_zero, List.set_cons_succ]))
      refine OS.wpO_loudE rfl fun K hK => ?_
      go_simp
      refine (rb_num y.state HR_v5.out HB2.out (by (try simp only [List.length_append, leB_length, textB_length, bitB_length, List.length_cons, List.length_nil]); have := HLE.out; omega)).mono ?_
      rintro e w6 ⟨v6, rfl, hr_v6, hf_v6⟩
      have HR_v6 := Lib.hid hr_v6
      refine hK _ _ ⟨hf_v6, ?_⟩
      clear hK K hr_v6 hf_v6
      try simp only [Act.put, List.setIfInBounds_toArray, List.set_cons_zero, List.set_cons_succ]
      repeat (first
        | (apply OS.wpO_pure rfl rfl; (focus (intro w'; go_simp; (try rfl); done)); try simp only [Act.put, List.setIfInBounds_toArray, List.set_cons_zero, List.set_cons_succ])
        | (apply OS.wpO_read rfl rfl; (focus (intro w' hf' hs'; (try simp only [World.size_drew, World.cell?_drew, World.size_alloc, World.size_setCell, not_false_eq_true, forall_const] at hs'); go_simp; (try rfl); done)); try simp only [Act.put, List.setIfInBounds_toArray, List.set_cons_zero, List.set_cons_succ])
        | (apply OS.wpO_skip (by decide) rfl rfl; try simp only [Act.put, List.setIfInBounds_toArray, List.set_cons_zero, List.set_cons_succ]))
      refine OS.wpO_nil ?_
      have HP6 := Lib.hid (HPA.out.rb HR_v6.out)
      have HJ6 := Lib.hid (HJ.out.fr HR_v6.out.2 nS)
      clear HR_v3 HR_v4 HR_v5 HR_v6 HPA HJ HB2 nS
      clear m0 m1 m2 m3 m4 m5 m6 m7 m8 m9 ml
      have m0 := HJ6.out.cell 0
      have m1 := HJ6.out.cell 1
      have m2 := HJ6.out.cell 2
      have m3 := HJ6.out.cell 3
      have m4 := HJ6.out.cell 4
      have m5 := HJ6.out.cell 5
      have m6 := HJ6.out.cell 6
      have m7 := HJ6.out.cell 7
      have m8 := HJ6.out.cell 8
      have m9 := HJ6.out.cell 9
      have ml := HJ6.out.lt
      simp only [List.getElem?_cons_zero, List.getElem?_cons_succ] at m0 m1 m2 m3 m4 m5 m6 m7 m8 m9
      have HB2 := Lib.hid (HP6.out.fr.size)
      have nS := SU.blk (base := w.heap.size) HJ6.out (by decide)
      go_wp2
      refine OS.wp_region_o (SU w.heap.size (w6)) [(0, 0), (1, 0), (4, 0), (2, 1), (5, 1), (3, 2), (6, 2), (7, 0)] (by kernel_rfl) (by kernel_rfl) ?_
      repeat (first
        | (apply OS.wpO_pure rfl rfl; (focus (intro w'; go_simp; (try rfl); done)); try simp only [Act.put, List.setIfInBounds_toArray, List.set_cons_zero, List.set_cons_succ])
        | (apply OS.wpO_read rfl rfl; (focus (intro w' hf' hs'; (try simp only [World.size_drew, World.cell?_drew, World.size_alloc, World.size_setCell, not_false_eq_true, forall_const] at hs'); go_simp; (try rfl); done)); try simp only [Act.put, List.setIfInBounds_toArray, List.set_cons_zero, List.set_cons_succ])
        | (apply OS.wpO_skip (by decide) rfl rfl; try simp only [Act.put, List.setIfInBounds_toArray, List.set_cons_zero, List.set_cons_succ]))
      refine OS.wpO_loudE rfl fun K hK => ?_
      go_simp
      refine (rb_truth y.hold (RB.start HP6.out.buf) HB2.out (by (try simp only [List.length_append, leB_length, textB_length, bitB_length, List.length_cons, List.length_nil]); have := HLE.out; omega)).mono ?_
      rintro e w7 ⟨v7, rfl, hr_v7, hf_v7⟩
      have HR_v7 := Lib.hid hr_v7
      refine hK _ _ ⟨hf_v7, ?_⟩
      clear hK K hr_v7 hf_v7
      try simp only [Act.put, List.setIfInBounds_toArray, List.set_cons_zero, List.set_cons_succ]
      repeat (first
        | (apply OS.wpO_pure rfl rfl; (focus (intro w'; go_simp; (try rfl); done)); try simp only [Act.put, List.setIfInBounds_toArray, List.set_cons_zero, List.set_cons_succ])
        | (apply OS.wpO_read rfl rfl; (focus (intro w' hf' hs'; (try simp only [World.size_drew, World.cell?_drew, World.size_alloc, World.size_setCell, not_false_eq_true, forall_const] at hs'); go_simp; (try rfl); done)); try simp only [Act.put, List.setIfInBounds_toArray, List.set_cons_zero, List.set_cons_succ])
        | (apply OS.wpO_skip (by decide) rfl rfl; try simp only [Act.put, List.setIfInBounds_toArray, List.set_cons_zero, List.set_cons_succ]))
      refine OS.wpO_loudE rfl fun K hK => ?_
      go_simp
      refine (rb_truth y.force HR_v7.out HB2.out (by (try simp only [List.length_append, leB_length, textB_length, bitB_length, List.length_cons, List.length_nil]); have := HLE.out; omega)).mono ?_
      rintro e w8 ⟨v8, rfl, hr_v8, hf_v8⟩
      have HR_v8 := Lib.hid hr_v8
      refine hK _ _ ⟨hf_v8, ?_⟩
      clear hK K hr_v8 hf_v8
      try simp only [Act.put, List.setIfInBounds_toArray, List.set_cons_zero, List.set_cons_succ]
      repeat (first
        | (apply OS.wpO_pure rfl rfl; (focus (intro w'; go_simp; (try rfl); done)); try simp only [Act.put, List.setIfInBounds_toArray, List.set_cons_zero, List.set_cons_succ])
        | (apply OS.wpO_read rfl rfl; (focus (intro w' hf' hs'; (try simp only [World.size_drew, World.cell?_drew, World.size_alloc, World.size_setCell, not_false_eq_true, forall_const] at hs'); go_simp; (try rfl); done)); try simp only [Act.put, List.setIfInBounds_toArray, List.set_cons_zero, List.set_cons_succ])
        | (apply OS.wpO_skip (by decide) rfl rfl; try simp only [Act.put, List.setIfInBounds_toArray, List.set_cons_zero, List.set_cons_succ]))
      refine OS.wpO_nil ?_
      have HP8 := Lib.hid (HP6.out.rb HR_v8.out)
      have HJ8 := Lib.hid (HJ6.out.fr HR_v8.out.2 nS)
      clear HR_v7 HR_v8 HP6 HJ6 HB2 nS
      clear m0 m1 m2 m3 m4 m5 m6 m7 m8 m9 ml
      have m0 := HJ8.out.cell 0
      have m1 := HJ8.out.cell 1
      have m2 := HJ8.out.cell 2
      have m3 := HJ8.out.cell 3
      have m4 := HJ8.out.cell 4
      have m5 := HJ8.out.cell 5
      have m6 := HJ8.out.cell 6
      have m7 := HJ8.out.cell 7
      have m8 := HJ8.out.cell 8
      have m9 := HJ8.out.cell 9
      have ml := HJ8.out.lt
      simp only [List.getElem?_cons_zero, List.getElem?_cons_succ] at m0 m1 m2 m3 m4 m5 m6 m7 m8 m9
      have HB2 := Lib.hid (HP8.out.fr.size)
      have nS := SU.blk (base := w.heap.size) HJ8.out (by decide)
      go_wp2
      refine OS.wp_region_o (SU w.heap.size (w8)) [(0, 0), (1, 0), (4, 0), (7, 0), (10, 0), (2, 1), (5, 1), (8, 1), (11, 1), (3, 2), (6, 2), (9, 2), (12, 2), (13, 0)] (by kernel_rfl) (by kernel_rfl) ?_
      repeat (first
        | (apply OS.wpO_pure rfl rfl; (focus (intro w'; go_simp; (try rfl); done)); try simp only [Act.put, List.setIfInBounds_toArray, List.set_cons_zero, List.set_cons_succ])
        | (apply OS.wpO_read rfl rfl; (focus (intro w' hf' hs'; (try simp only [World.size_drew, World.cell?_drew, World.size_alloc, World.size_setCell, not_false_eq_true, forall_const] at hs'); go_simp; (try rfl); done)); try simp only [Act.put, List.setIfInBounds_toArray, List.set_cons_zero, List.set_cons_succ])
        | (apply OS.wpO_skip (by decide) rfl rfl; try simp only [Act.put, List.setIfInBounds_toArray, List.set_cons_zero, List.set_cons_succ]))
      refine OS.wpO_loudE rfl fun K hK => ?_
      go_simp
      refine (rb_num y.runs (RB.start HP8.out.buf) HB2.out (by (try simp only [List.length_append, leB_length, textB_length, bitB_length, List.length_cons, List.length_nil]); have := HLE.out; omega)).mono ?_
      rintro e w9 ⟨v9, rfl, hr_v9, hf_v9⟩
      have HR_v9 := Lib.hid hr_v9
      refine hK _ _ ⟨hf_v9, ?_⟩
      clear hK K hr_v9 hf_v9
      try simp only [Act.put, List.setIfInBounds_toArray, List.set_cons_zero, List.set_cons_succ]
      repeat (first
        | (apply OS.wpO_pure rfl rfl; (focus (intro w'; go_simp; (try rfl); done)); try simp only [Act.put, List.setIfInBounds_toArray, List.set_cons_zero, List.set_cons_succ])
        | (apply OS.wpO_read rfl rfl; (focus (intro w' hf' hs'; (try simp only [World.size_drew, World.cell?_drew, World.size_alloc, World.size_setCell, not_false_eq_true, forall_const] at hs'); go_simp; (try rfl); done)); try simp only [Act.put, List.setIfInBounds_toArray, List.set_cons_zero, List.set_cons_succ])
        | (apply OS.wpO_skip (by decide) rfl rfl; try simp only [Act.put, List.setIfInBounds_toArray, List.set_cons_zero, List.set_cons_succ]))
      refine OS.wpO_loudE rfl fun K hK => ?_
      go_simp
      refine (rb_num y.tries HR_v9.out HB2.out (by (try simp only [List.length_append, leB_length, textB_length, bitB_length, List.length_cons, List.length_nil]); have := HLE.out; omega)).mono ?_
      rintro e w10 ⟨v10, rfl, hr_v10, hf_v10⟩
      have HR_v10 := Lib.hid hr_v10
      refine hK _ _ ⟨hf_v10, ?_⟩
      clear hK K hr_v10 hf_v10
      try simp only [Act.put, List.setIfInBounds_toArray, List.set_cons_zero, List.set_cons_succ]
      repeat (first
        | (apply OS.wpO_pure rfl rfl; (focus (intro w'; go_simp; (try rfl); done)); try simp only [Act.put, List.setIfInBounds_toArray, List.set_cons_zero, List.set_cons_succ])
        | (apply OS.wpO_read rfl rfl; (focus (intro w' hf' hs'; (try simp only [World.size_drew, World.cell?_drew, World.size_alloc, World.size_setCell, not_false_eq_true, forall_const] at hs'); go_simp; (try rfl); done)); try simp only [Act.put, List.setIfInBounds_toArray, List.set_cons_zero, List.set_cons_succ])
        | (apply OS.wpO_skip (by decide) rfl rfl; try simp only [Act.put, List.setIfInBounds_toArray, List.set_cons_zero, List.set_cons_succ]))
      refine OS.wpO_loudE rfl fun K hK => ?_
      go_simp
      refine (rb_num y.run HR_v10.out HB2.out (by (try simp only [List.length_append, leB_length, textB_length, bitB_length, List.length_cons, List.length_nil]); have := HLE.out; omega)).mono ?_
      rintro e w11 ⟨v11, rfl, hr_v11, hf_v11⟩
      have HR_v11 := Lib.hid hr_v11
      refine hK _ _ ⟨hf_v11, ?_⟩
      clear hK K hr_v11 hf_v11
      try simp only [Act.put, List.setIfInBounds_toArray, List.set_cons_zero, List.set_cons_succ]
      repeat (first
        | (apply OS.wpO_pure rfl rfl; (focus (intro w'; go_simp; (try rfl); done)); try simp only [Act.put, List.setIfInBounds_toArray, List.set_cons_zero, List.set_cons_succ])
        | (apply OS.wpO_read rfl rfl; (focus (intro w' hf' hs'; (try simp only [World.size_drew, World.cell?_drew, World.size_alloc, World.size_setCell, not_false_eq_true, forall_const] at hs'); go_simp; (try rfl); done)); try simp only [Act.put, List.setIfInBounds_toArray, List.set_cons_zero, List.set_cons_succ])
        | (apply OS.wpO_skip (by decide) rfl rfl; try simp only [Act.put, List.setIfInBounds_toArray, List.set_cons_zero, List.set_cons_succ]))
      refine OS.wpO_loudE rfl fun K hK => ?_
      go_simp
      refine (rb_num y.at_ HR_v11.out HB2.out (by (try simp only [List.length_append, leB_length, textB_length, bitB_length, List.length_cons, List.length_nil]); have := HLE.out; omega)).mono ?_
      rintro e w12 ⟨v12, rfl, hr_v12, hf_v12⟩
      have HR_v12 := Lib.hid hr_v12
      refine hK _ _ ⟨hf_v12, ?_⟩
      clear hK K hr_v12 hf_v12
      try simp only [Act.put, List.setIfInBounds_toArray, List.set_cons_zero, List.set_cons_succ]
      repeat (first
        | (apply OS.wpO_pure rfl rfl; (focus (intro w'; go_simp; (try rfl); done)); try simp only [Act.put, List.setIfInBounds_toArray, List.set_cons_zero, List.set_cons_succ])
        | (apply OS.wpO_read rfl rfl; (focus (intro w' hf' hs'; (try simp only [World.size_drew, World.cell?_drew, World.size_alloc, World.size_setCell, not_false_eq_true, forall_const] at hs'); go_simp; (try rfl); done)); try simp only [Act.put, List.setIfInBounds_toArray, List.set_cons_zero, List.set_cons_succ])
        | (apply OS.wpO_skip (by decide) rfl rfl; try simp only [Act.put, List.setIfInBounds_toArray, List.set_cons_zero, List.set_cons_succ]))
      refine OS.wpO_nil ?_
      have hp := HP8.out.rb HR_v12.out
      rw [job_flat, HDL.out, List.append_assoc, ← HT.out] at hp
      have HP := Lib.hid hp
      clear HR_v9 HR_v10 HR_v11 HR_v12 HP8 HJ8 HB2 nS hp
      clear m0 m1 m2 m3 m4 m5 m6 m7 m8 m9 ml
      go_wp2
      go_roundg (x.jobs.length - (i + 1))
      case measure => omega
      case rel => exact ⟨i + 1, v12, by omega, by go_num, rfl, HP.out⟩
    · obtain rfl : i = x.jobs.length := by omega
      rw [List.take_length] at HP
      have hle := flat_le' bytesJ 66 x.jobs (fun y hy => by rw [bytesJ_length]; omega)
      obtain ⟨q1, hq⟩ : ∃ q, q = P1 ++ x.jobs.flatMap bytesJ := ⟨_, rfl⟩
      rw [← hq] at HP
      have HQ1 := Lib.hid hq
      have HLE := Lib.hid (show q1.length ≤ 10000000 by rw [hq, List.length_append]; have := HL1.out; have := HN.out.1; omega)
      clear hq hle
      go_wp2_with (go_at_call 61; refine (refNum_any w.heap.size _ _ x.conds.length _ HP.out.buf HP.out.fr.size (by (try simp only [List.length_append, leB_length, textB_length, bitB_length, List.length_cons, List.length_nil]); have := HLE.out; omega)).mono ?_; rintro e w2 ⟨v2, rfl, ho7, hf7⟩; have HP_v2 := Lib.hid (HP.out.u8 ho7 hf7); clear ho7 hf7)
      obtain ⟨P2, hP⟩ : ∃ P, P = q1 ++ leB (u64N x.conds.length) 8 := ⟨_, rfl⟩
      rw [← hP] at HP_v2
      have HD2 := Lib.hid hP
      have HL2 := Lib.hid (show P2.length ≤ 2410010 by rw [hP, HQ1.out]; simp only [List.length_append, leB_length]; have hle := flat_le' bytesJ 66 x.jobs (fun y hy => by rw [bytesJ_length]; omega); have := HL1.out; have := HN.out.1; omega)
      clear hP HLE HP
      clear n0 n1 n2 n3 n4 n5 n6 n7 n8
      go_loopg [6, 9] x.conds.length (fun g v6 v7 wr => RSRel w w.heap.size (x.cells A0 A1 A2 A3 c0 c1 c2 c3) bytesC P2 x.conds g v6 v7 wr)
      case atStart => exact ⟨0, v2, by omega, rfl, rfl, by simpa using HP_v2.out⟩
      case round =>
        clear HP_v2 hi0 hi
        obtain ⟨i, v, hgi, rfl, rfl, hps⟩ := hrel
        have HP := Lib.hid hps
        have n0 := HP.out.blk.cell 0
        have n1 := HP.out.blk.cell 1
        have n2 := HP.out.blk.cell 2
        have n3 := HP.out.blk.cell 3
        have n4 := HP.out.blk.cell 4
        have n5 := HP.out.blk.cell 5
        have n6 := HP.out.blk.cell 6
        have n7 := HP.out.blk.cell 7
        have n8 := HP.out.blk.lt
        simp only [List.getElem?_cons_zero, List.getElem?_cons_succ] at n0 n1 n2 n3 n4 n5 n6 n7
        have hi0 : (0 : Int) ≤ (i : Int) := by omega
        clear hps
        by_cases hi : i < x.conds.length
        · have hi1 : (i : Int) < (x.conds.length : Int) := by omega
          obtain ⟨y, hy⟩ : ∃ y, x.conds[i]? = some y := ⟨_, List.getElem?_eq_getElem hi⟩
          obtain ⟨g, oo, rfl, hg, k0, k1⟩ := cond_at HS.out.conds hy
          replace k0 := (HP.out.fr.cells g (oo + i * 2) hg).trans k0
          replace k1 := (HP.out.fr.cells g (oo + i * 2 + 1) hg).trans k1
          have hg1 : g < wr.heap.size := Nat.lt_of_lt_of_le hg HP.out.fr.size
          have nG := SU.low hg HP.out.fr.size
          have HT := Lib.hid (take_flat bytesC hy)
          have hle := flat_le bytesC 271 x.conds i (fun y hy => by rw [bytesC_length]; have := HN.out.2.1 y hy; omega)
          have HNM := Lib.hid (HN.out.2.1 y (List.mem_of_getElem? hy))
          obtain ⟨l, hl⟩ : ∃ l, l = P2 ++ (x.conds.take i).flatMap bytesC := ⟨_, rfl⟩
          have HLE := Lib.hid (show l.length ≤ 10000000 by rw [hl, List.length_append]; have := HL2.out; have := HN.out.1; omega)
          rw [← hl] at HP
          have HDL := Lib.hid hl
          clear hy hl hle
          go_wp2
          have HB2 := Lib.hid (HP.out.fr.size)
          have nS := SU.blk (base := w.heap.size) HP.out.blk (by decide)
          refine OS.wp_region_o (SU w.heap.size (wr)) [(0, 0), (1, 0), (2, 1), (3, 0), (4, 0), (5, 0), (6, 1), (8, 0), (9, 1), (10, 0), (11, 0), (12, 0), (13, 1), (7, 2), (14, 2), (15, 0)] (by kernel_rfl) (by kernel_rfl) ?_
          repeat (first
            | (apply OS.wpO_pure rfl rfl; (focus (intro w'; go_simp; (try rfl); done)); try simp only [Act.put, List.setIfInBounds_toArray, List.set_cons_zero, List.set_cons_succ])
            | (apply OS.wpO_read rfl rfl; (focus (intro w' hf' hs'; (try simp only [World.size_drew, World.cell?_drew, World.size_alloc, World.size_setCell, not_false_eq_true, forall_const] at hs'); go_simp; (try rfl); done)); try simp only [Act.put, List.setIfInBounds_toArray, List.set_cons_zero, List.set_cons_succ])
            | (apply OS.wpO_skip (by decide) rfl rfl; try simp only [Act.put, List.setIfInBounds_toArray, List.set_cons_zero, List.set_cons_succ]))
          refine OS.wpO_loudE rfl fun K hK => ?_
          go_simp
          refine (rb_text y.name (RB.start HP.out.buf) HB2.out (by (try simp only [List.length_append, leB_length, textB_length, bitB_length, List.length_cons, List.length_nil]); have := HLE.out; have := HNM.out; omega)).mono ?_
          rintro e w3 ⟨v3, rfl, hr_v3, hf_v3⟩
          have HR_v3 := Lib.hid hr_v3
          refine hK _ _ ⟨hf_v3, ?_⟩
          clear hK K hr_v3 hf_v3
          try simp only [Act.put, List.setIfInBounds_toArray, List.set_cons_zero, List.set_cons_succ]
          repeat (first
            | (apply OS.wpO_pure rfl rfl; (focus (intro w'; go_simp; (try rfl); done)); try simp only [Act.put, List.setIfInBounds_toArray, List.set_cons_zero, List.set_cons_succ])
            | (apply OS.wpO_read rfl rfl; (focus (intro w' hf' hs'; (try simp only [World.size_drew, World.cell?_drew, World.size_alloc, World.size_setCell, not_false_eq_true, forall_const] at hs'); go_simp; (try rfl); done)); try simp only [Act.put, List.setIfInBounds_toArray, List.set_cons_zero, List.set_cons_succ])
            | (apply OS.wpO_skip (by decide) rfl rfl; try simp only [Act.put, List.setIfInBounds_toArray, List.set_cons_zero, List.set_cons_succ]))
          refine OS.wpO_loudE rfl fun K hK => ?_
          go_simp
          refine (rb_num y.day HR_v3.out HB2.out (by (try simp only [List.length_append, leB_length, textB_length, bitB_length, List.length_cons, List.length_nil]); have := HLE.out; have := HNM.out; omega)).mono ?_
          rintro e w4 ⟨v4, rfl, hr_v4, hf_v4⟩
          have HR_v4 := Lib.hid hr_v4
          refine hK _ _ ⟨hf_v4, ?_⟩
          clear hK K hr_v4 hf_v4
          try simp only [Act.put, List.setIfInBounds_toArray, List.set_cons_zero, List.set_cons_succ]
          repeat (first
            | (apply OS.wpO_pure rfl rfl; (focus (intro w'; go_simp; (try rfl); done)); try simp only [Act.put, List.setIfInBounds_toArray, List.set_cons_zero, List.set_cons_succ])
            | (apply OS.wpO_read rfl rfl; (focus (intro w' hf' hs'; (try simp only [World.size_drew, World.cell?_drew, World.size_alloc, World.size_setCell, not_false_eq_true, forall_const] at hs'); go_simp; (try rfl); done)); try simp only [Act.put, List.setIfInBounds_toArray, List.set_cons_zero, List.set_cons_succ])
            | (apply OS.wpO_skip (by decide) rfl rfl; try simp only [Act.put, List.setIfInBounds_toArray, List.set_cons_zero, List.set_cons_succ]))
          refine OS.wpO_nil ?_
          have hp := HP.out.rb HR_v4.out
          rw [cond_flat, HDL.out, List.append_assoc, ← HT.out] at hp
          have HP9 := Lib.hid hp
          clear hp HR_v3 HR_v4
          clear n0 n1 n2 n3 n4 n5 n6 n7 n8
          go_wp2
          go_roundg (x.conds.length - (i + 1))
          case measure => omega
          case rel => exact ⟨i + 1, v4, by omega, by go_num, rfl, HP9.out⟩
        · obtain rfl : i = x.conds.length := by omega
          rw [List.take_length] at HP
          have hle := flat_le' bytesC 271 x.conds (fun y hy => by rw [bytesC_length]; have := HN.out.2.1 y hy; omega)
          obtain ⟨q2, hq⟩ : ∃ q, q = P2 ++ x.conds.flatMap bytesC := ⟨_, rfl⟩
          rw [← hq] at HP
          have HQ2 := Lib.hid hq
          have HLE := Lib.hid (show q2.length ≤ 10000000 by rw [hq, List.length_append]; have := HL2.out; have := HN.out.1; omega)
          clear hq hle
          go_wp2_with (go_at_call 61; refine (refNum_any w.heap.size _ _ x.res.length _ HP.out.buf HP.out.fr.size (by (try simp only [List.length_append, leB_length, textB_length, bitB_length, List.length_cons, List.length_nil]); have := HLE.out; omega)).mono ?_; rintro e w2 ⟨v2, rfl, ho7, hf7⟩; have HP_v2 := Lib.hid (HP.out.u8 ho7 hf7); clear ho7 hf7)
          obtain ⟨P3, hP⟩ : ∃ P, P = q2 ++ leB (u64N x.res.length) 8 := ⟨_, rfl⟩
          rw [← hP] at HP_v2
          have HD3 := Lib.hid hP
          have HL3 := Lib.hid (show P3.length ≤ 3610010 by rw [hP, HQ2.out]; simp only [List.length_append, leB_length]; have hle := flat_le' bytesC 271 x.conds (fun y hy => by rw [bytesC_length]; have := HN.out.2.1 y hy; omega); have := HL2.out; have := HN.out.1; omega)
          clear hP HLE HP
          clear n0 n1 n2 n3 n4 n5 n6 n7 n8
          go_loopg [6, 10] x.res.length (fun g v6 v7 wr => RSRel w w.heap.size (x.cells A0 A1 A2 A3 c0 c1 c2 c3) bytesR P3 x.res g v6 v7 wr)
          case atStart => exact ⟨0, v2, by omega, rfl, rfl, by simpa using HP_v2.out⟩
          case round =>
            clear HP_v2 hi0 hi
            obtain ⟨i, v, hgi, rfl, rfl, hps⟩ := hrel
            have HP := Lib.hid hps
            have n0 := HP.out.blk.cell 0
            have n1 := HP.out.blk.cell 1
            have n2 := HP.out.blk.cell 2
            have n3 := HP.out.blk.cell 3
            have n4 := HP.out.blk.cell 4
            have n5 := HP.out.blk.cell 5
            have n6 := HP.out.blk.cell 6
            have n7 := HP.out.blk.cell 7
            have n8 := HP.out.blk.lt
            simp only [List.getElem?_cons_zero, List.getElem?_cons_succ] at n0 n1 n2 n3 n4 n5 n6 n7
            have hi0 : (0 : Int) ≤ (i : Int) := by omega
            clear hps
            by_cases hi : i < x.res.length
            · have hi1 : (i : Int) < (x.res.length : Int) := by omega
              obtain ⟨y, hy⟩ : ∃ y, x.res[i]? = some y := ⟨_, List.getElem?_eq_getElem hi⟩
              obtain ⟨g, oo, rfl, hg, k0, k1, k2⟩ := res_at HS.out.res hy
              replace k0 := (HP.out.fr.cells g (oo + i * 3) hg).trans k0
              replace k1 := (HP.out.fr.cells g (oo + i * 3 + 1) hg).trans k1
              replace k2 := (HP.out.fr.cells g (oo + i * 3 + 2) hg).trans k2
              have hg1 : g < wr.heap.size := Nat.lt_of_lt_of_le hg HP.out.fr.size
              have nG := SU.low hg HP.out.fr.size
              have HT := Lib.hid (take_flat bytesR hy)
              have hle := flat_le bytesR 272 x.res i (fun y hy => by rw [bytesR_length]; have := HN.out.2.2.1 y hy; omega)
              have HNM := Lib.hid (HN.out.2.2.1 y (List.mem_of_getElem? hy))
              obtain ⟨l, hl⟩ : ∃ l, l = P3 ++ (x.res.take i).flatMap bytesR := ⟨_, rfl⟩
              have HLE := Lib.hid (show l.length ≤ 10000000 by rw [hl, List.length_append]; have := HL3.out; have := HN.out.1; omega)
              rw [← hl] at HP
              have HDL := Lib.hid hl
              clear hy hl hle
              go_wp2
              have HB2 := Lib.hid (HP.out.fr.size)
              have nS := SU.blk (base := w.heap.size) HP.out.blk (by decide)
              refine OS.wp_region_o (SU w.heap.size (wr)) [(0, 0), (1, 0), (2, 1), (3, 0), (4, 0), (5, 0), (6, 1), (8, 0), (9, 1), (10, 0), (11, 0), (12, 0), (13, 1), (15, 0), (16, 1), (17, 0), (18, 0), (19, 0), (20, 1), (7, 2), (14, 2), (21, 2), (22, 0)] (by kernel_rfl) (by kernel_rfl) ?_
              repeat (first
                | (apply OS.wpO_pure rfl rfl; (focus (intro w'; go_simp; (try rfl); done)); try simp only [Act.put, List.setIfInBounds_toArray, List.set_cons_zero, List.set_cons_succ])
                | (apply OS.wpO_read rfl rfl; (focus (intro w' hf' hs'; (try simp only [World.size_drew, World.cell?_drew, World.size_alloc, World.size_setCell, not_false_eq_true, forall_const] at hs'); go_simp; (try rfl); done)); try simp only [Act.put, List.setIfInBounds_toArray, List.set_cons_zero, List.set_cons_succ])
                | (apply OS.wpO_skip (by decide) rfl rfl; try simp only [Act.put, List.setIfInBounds_toArray, List.set_cons_zero, List.set_cons_succ]))
              refine OS.wpO_loudE rfl fun K hK => ?_
              go_simp
              refine (rb_text y.name (RB.start HP.out.buf) HB2.out (by (try simp only [List.length_append, leB_length, textB_length, bitB_length, List.length_cons, List.length_nil]); have := HLE.out; have := HNM.out; omega)).mono ?_
              rintro e w3 ⟨v3, rfl, hr_v3, hf_v3⟩
              have HR_v3 := Lib.hid hr_v3
              refine hK _ _ ⟨hf_v3, ?_⟩
              clear hK K hr_v3 hf_v3
              try simp only [Act.put, List.setIfInBounds_toArray, List.set_cons_zero, List.set_cons_succ]
              repeat (first
                | (apply OS.wpO_pure rfl rfl; (focus (intro w'; go_simp; (try rfl); done)); try simp only [Act.put, List.setIfInBounds_toArray, List.set_cons_zero, List.set_cons_succ])
                | (apply OS.wpO_read rfl rfl; (focus (intro w' hf' hs'; (try simp only [World.size_drew, World.cell?_drew, World.size_alloc, World.size_setCell, not_false_eq_true, forall_const] at hs'); go_simp; (try rfl); done)); try simp only [Act.put, List.setIfInBounds_toArray, List.set_cons_zero, List.set_cons_succ])
                | (apply OS.wpO_skip (by decide) rfl rfl; try simp only [Act.put, List.setIfInBounds_toArray, List.set_cons_zero, List.set_cons_succ]))
              refine OS.wpO_loudE rfl fun K hK => ?_
              go_simp
              refine (rb_num y.units HR_v3.out HB2.out (by (try simp only [List.length_append, leB_length, textB_length, bitB_length, List.length_cons, List.length_nil]); have := HLE.out; have := HNM.out; omega)).mono ?_
              rintro e w4 ⟨v4, rfl, hr_v4, hf_v4⟩
              have HR_v4 := Lib.hid hr_v4
              refine hK _ _ ⟨hf_v4, ?_⟩
              clear hK K hr_v4 hf_v4
              try simp only [Act.put, List.setIfInBounds_toArray, List.set_cons_zero, List.set_cons_succ]
              repeat (first
                | (apply OS.wpO_pure rfl rfl; (focus (intro w'; go_simp; (try rfl); done)); try simp only [Act.put, List.setIfInBounds_toArray, List.set_cons_zero, List.set_cons_succ])
                | (apply OS.wpO_read rfl rfl; (focus (intro w' hf' hs'; (try simp only [World.size_drew, World.cell?_drew, World.size_alloc, World.size_setCell, not_false_eq_true, forall_const] at hs'); go_simp; (try rfl); done)); try simp only [Act.put, List.setIfInBounds_toArray, List.set_cons_zero, List.set_cons_succ])
                | (apply OS.wpO_skip (by decide) rfl rfl; try simp only [Act.put, List.setIfInBounds_toArray, List.set_cons_zero, List.set_cons_succ]))
              refine OS.wpO_loudE rfl fun K hK => ?_
              go_simp
              refine (rb_truth y.lock HR_v4.out HB2.out (by (try simp only [List.length_append, leB_length, textB_length, bitB_length, List.length_cons, List.length_nil]); have := HLE.out; have := HNM.out; omega)).mono ?_
              rintro e w5 ⟨v5, rfl, hr_v5, hf_v5⟩
              have HR_v5 := Lib.hid hr_v5
              refine hK _ _ ⟨hf_v5, ?_⟩
              clear hK K hr_v5 hf_v5
              try simp only [Act.put, List.setIfInBounds_toArray, List.set_cons_zero, List.set_cons_succ]
              repeat (first
                | (apply OS.wpO_pure rfl rfl; (focus (intro w'; go_simp; (try rfl); done)); try simp only [Act.put, List.setIfInBounds_toArray, List.set_cons_zero, List.set_cons_succ])
                | (apply OS.wpO_read rfl rfl; (focus (intro w' hf' hs'; (try simp only [World.size_drew, World.cell?_drew, World.size_alloc, World.size_setCell, not_false_eq_true, forall_const] at hs'); go_simp; (try rfl); done)); try simp only [Act.put, List.setIfInBounds_toArray, List.set_cons_zero, List.set_cons_succ])
                | (apply OS.wpO_skip (by decide) rfl rfl; try simp only [Act.put, List.setIfInBounds_toArray, List.set_cons_zero, List.set_cons_succ]))
              refine OS.wpO_nil ?_
              have hp := HP.out.rb HR_v5.out
              rw [res_flat, HDL.out, List.append_assoc, ← HT.out] at hp
              have HP9 := Lib.hid hp
              clear hp HR_v3 HR_v4 HR_v5
              clear n0 n1 n2 n3 n4 n5 n6 n7 n8
              go_wp2
              go_roundg (x.res.length - (i + 1))
              case measure => omega
              case rel => exact ⟨i + 1, v5, by omega, by go_num, rfl, HP9.out⟩
            · obtain rfl : i = x.res.length := by omega
              rw [List.take_length] at HP
              have hle := flat_le' bytesR 272 x.res (fun y hy => by rw [bytesR_length]; have := HN.out.2.2.1 y hy; omega)
              obtain ⟨q3, hq⟩ : ∃ q, q = P3 ++ x.res.flatMap bytesR := ⟨_, rfl⟩
              rw [← hq] at HP
              have HQ3 := Lib.hid hq
              have HLE := Lib.hid (show q3.length ≤ 10000000 by rw [hq, List.length_append]; have := HL3.out; have := HN.out.1; omega)
              clear hq hle
              go_wp2_with (go_at_call 61; refine (refNum_any w.heap.size _ _ x.held.length _ HP.out.buf HP.out.fr.size (by (try simp only [List.length_append, leB_length, textB_length, bitB_length, List.length_cons, List.length_nil]); have := HLE.out; omega)).mono ?_; rintro e w2 ⟨v2, rfl, ho7, hf7⟩; have HP_v2 := Lib.hid (HP.out.u8 ho7 hf7); clear ho7 hf7)
              obtain ⟨P4, hP⟩ : ∃ P, P = q3 ++ leB (u64N x.held.length) 8 := ⟨_, rfl⟩
              rw [← hP] at HP_v2
              have HD4 := Lib.hid hP
              have HL4 := Lib.hid (show P4.length ≤ 4810010 by rw [hP, HQ3.out]; simp only [List.length_append, leB_length]; have hle := flat_le' bytesR 272 x.res (fun y hy => by rw [bytesR_length]; have := HN.out.2.2.1 y hy; omega); have := HL3.out; have := HN.out.1; omega)
              clear hP HLE HP
              clear n0 n1 n2 n3 n4 n5 n6 n7 n8
              go_loopg [6, 11] x.held.length (fun g v6 v7 wr => RSRel w w.heap.size (x.cells A0 A1 A2 A3 c0 c1 c2 c3) bytesH P4 x.held g v6 v7 wr)
              case atStart => exact ⟨0, v2, by omega, rfl, rfl, by simpa using HP_v2.out⟩
              case round =>
                clear HP_v2 hi0 hi
                obtain ⟨i, v, hgi, rfl, rfl, hps⟩ := hrel
                have HP := Lib.hid hps
                have n0 := HP.out.blk.cell 0
                have n1 := HP.out.blk.cell 1
                have n2 := HP.out.blk.cell 2
                have n3 := HP.out.blk.cell 3
                have n4 := HP.out.blk.cell 4
                have n5 := HP.out.blk.cell 5
                have n6 := HP.out.blk.cell 6
                have n7 := HP.out.blk.cell 7
                have n8 := HP.out.blk.lt
                simp only [List.getElem?_cons_zero, List.getElem?_cons_succ] at n0 n1 n2 n3 n4 n5 n6 n7
                have hi0 : (0 : Int) ≤ (i : Int) := by omega
                clear hps
                by_cases hi : i < x.held.length
                · have hi1 : (i : Int) < (x.held.length : Int) := by omega
                  obtain ⟨y, hy⟩ : ∃ y, x.held[i]? = some y := ⟨_, List.getElem?_eq_getElem hi⟩
                  obtain ⟨g, oo, rfl, hg, k0, k1, k2, k3⟩ := held_at HS.out.held hy
                  replace k0 := (HP.out.fr.cells g (oo + i * 4) hg).trans k0
                  replace k1 := (HP.out.fr.cells g (oo + i * 4 + 1) hg).trans k1
                  replace k2 := (HP.out.fr.cells g (oo + i * 4 + 2) hg).trans k2
                  replace k3 := (HP.out.fr.cells g (oo + i * 4 + 3) hg).trans k3
                  have hg1 : g < wr.heap.size := Nat.lt_of_lt_of_le hg HP.out.fr.size
                  have nG := SU.low hg HP.out.fr.size
                  have HT := Lib.hid (take_flat bytesH hy)
                  have hle := flat_le bytesH 287 x.held i (fun y hy => by rw [bytesH_length]; have := HN.out.2.2.2 y hy; omega)
                  have HNM := Lib.hid (HN.out.2.2.2 y (List.mem_of_getElem? hy))
                  obtain ⟨l, hl⟩ : ∃ l, l = P4 ++ (x.held.take i).flatMap bytesH := ⟨_, rfl⟩
                  have HLE := Lib.hid (show l.length ≤ 10000000 by rw [hl, List.length_append]; have := HL4.out; have := HN.out.1; omega)
                  rw [← hl] at HP
                  have HDL := Lib.hid hl
                  clear hy hl hle
                  go_wp2
                  have HJ := Lib.hid (Blk.new wr 124 y.vals)
                  have HPA := Lib.hid (HP.out.fr0 ((Fr.refl No wr).alloc (Obj.cells y.vals.toArray 124)))
                  clear HP k0 k1 k2 k3 hg1
                  clear n0 n1 n2 n3 n4 n5 n6 n7 n8
                  have m0 := HJ.out.cell 0
                  have m1 := HJ.out.cell 1
                  have m2 := HJ.out.cell 2
                  have m3 := HJ.out.cell 3
                  have ml := HJ.out.lt
                  simp only [List.getElem?_cons_zero, List.getElem?_cons_succ] at m0 m1 m2 m3
                  have HB2 := Lib.hid (HPA.out.fr.size)
                  have nS := SU.blk (base := w.heap.size) HJ.out (by decide)
                  refine OS.wp_region_o (SU w.heap.size (wr.alloc (Obj.cells y.vals.toArray 124))) [(0, 0), (1, 0), (4, 0), (7, 0), (10, 0), (2, 1), (5, 1), (8, 1), (11, 1), (3, 2), (6, 2), (9, 2), (12, 2), (13, 0)] (by kernel_rfl) (by kernel_rfl) ?_
                  repeat (first
                    | (apply OS.wpO_pure rfl rfl; (focus (intro w'; go_simp; (try rfl); done)); try simp only [Act.put, List.setIfInBounds_toArray, List.set_cons_zero, List.set_cons_succ])
                    | (apply OS.wpO_read rfl rfl; (focus (intro w' hf' hs'; (try simp only [World.size_drew, World.cell?_drew, World.size_alloc, World.size_setCell, not_false_eq_true, forall_const] at hs'); go_simp; (try rfl); done)); try simp only [Act.put, List.setIfInBounds_toArray, List.set_cons_zero, List.set_cons_succ])
                    | (apply OS.wpO_skip (by decide) rfl rfl; try simp only [Act.put, List.setIfInBounds_toArray, List.set_cons_zero, List.set_cons_succ]))
                  refine OS.wpO_loudE rfl fun K hK => ?_
                  go_simp
                  refine (rb_num y.owner (RB.start HPA.out.buf) HB2.out (by (try simp only [List.length_append, leB_length, textB_length, bitB_length, List.length_cons, List.length_nil]); have := HLE.out; have := HNM.out; omega)).mono ?_
                  rintro e w3 ⟨v3, rfl, hr_v3, hf_v3⟩
                  have HR_v3 := Lib.hid hr_v3
                  refine hK _ _ ⟨hf_v3, ?_⟩
                  clear hK K hr_v3 hf_v3
                  try simp only [Act.put, List.setIfInBounds_toArray, List.set_cons_zero, List.set_cons_succ]
                  repeat (first
                    | (apply OS.wpO_pure rfl rfl; (focus (intro w'; go_simp; (try rfl); done)); try simp only [Act.put, List.setIfInBounds_toArray, List.set_cons_zero, List.set_cons_succ])
                    | (apply OS.wpO_read rfl rfl; (focus (intro w' hf' hs'; (try simp only [World.size_drew, World.cell?_drew, World.size_alloc, World.size_setCell, not_false_eq_true, forall_const] at hs'); go_simp; (try rfl); done)); try simp only [Act.put, List.setIfInBounds_toArray, List.set_cons_zero, List.set_cons_succ])
                    | (apply OS.wpO_skip (by decide) rfl rfl; try simp only [Act.put, List.setIfInBounds_toArray, List.set_cons_zero, List.set_cons_succ]))
                  refine OS.wpO_loudE rfl fun K hK => ?_
                  go_simp
                  refine (rb_text y.name HR_v3.out HB2.out (by (try simp only [List.length_append, leB_length, textB_length, bitB_length, List.length_cons, List.length_nil]); have := HLE.out; have := HNM.out; omega)).mono ?_
                  rintro e w4 ⟨v4, rfl, hr_v4, hf_v4⟩
                  have HR_v4 := Lib.hid hr_v4
                  refine hK _ _ ⟨hf_v4, ?_⟩
                  clear hK K hr_v4 hf_v4
                  try simp only [Act.put, List.setIfInBounds_toArray, List.set_cons_zero, List.set_cons_succ]
                  repeat (first
                    | (apply OS.wpO_pure rfl rfl; (focus (intro w'; go_simp; (try rfl); done)); try simp only [Act.put, List.setIfInBounds_toArray, List.set_cons_zero, List.set_cons_succ])
                    | (apply OS.wpO_read rfl rfl; (focus (intro w' hf' hs'; (try simp only [World.size_drew, World.cell?_drew, World.size_alloc, World.size_setCell, not_false_eq_true, forall_const] at hs'); go_simp; (try rfl); done)); try simp only [Act.put, List.setIfInBounds_toArray, List.set_cons_zero, List.set_cons_succ])
                    | (apply OS.wpO_skip (by decide) rfl rfl; try simp only [Act.put, List.setIfInBounds_toArray, List.set_cons_zero, List.set_cons_succ]))
                  refine OS.wpO_loudE rfl fun K hK => ?_
                  go_simp
                  refine (rb_num y.n HR_v4.out HB2.out (by (try simp only [List.length_append, leB_length, textB_length, bitB_length, List.length_cons, List.length_nil]); have := HLE.out; have := HNM.out; omega)).mono ?_
                  rintro e w5 ⟨v5, rfl, hr_v5, hf_v5⟩
                  have HR_v5 := Lib.hid hr_v5
                  refine hK _ _ ⟨hf_v5, ?_⟩
                  clear hK K hr_v5 hf_v5
                  try simp only [Act.put, List.setIfInBounds_toArray, List.set_cons_zero, List.set_cons_succ]
                  repeat (first
                    | (apply OS.wpO_pure rfl rfl; (focus (intro w'; go_simp; (try rfl); done)); try simp only [Act.put, List.setIfInBounds_toArray, List.set_cons_zero, List.set_cons_succ])
                    | (apply OS.wpO_read rfl rfl; (focus (intro w' hf' hs'; (try simp only [World.size_drew, World.cell?_drew, World.size_alloc, World.size_setCell, not_false_eq_true, forall_const] at hs'); go_simp; (try rfl); done)); try simp only [Act.put, List.setIfInBounds_toArray, List.set_cons_zero, List.set_cons_succ])
                    | (apply OS.wpO_skip (by decide) rfl rfl; try simp only [Act.put, List.setIfInBounds_toArray, List.set_cons_zero, List.set_cons_succ]))
                  refine OS.wpO_loudE rfl fun K hK => ?_
                  go_simp
                  refine (rb_num y.mode HR_v5.out HB2.out (by (try simp only [List.length_append, leB_length, textB_length, bitB_length, List.length_cons, List.length_nil]); have := HLE.out; have := HNM.out; omega)).mono ?_
                  rintro e w6 ⟨v6, rfl, hr_v6, hf_v6⟩
                  have HR_v6 := Lib.hid hr_v6
                  refine hK _ _ ⟨hf_v6, ?_⟩
                  clear hK K hr_v6 hf_v6
                  try simp only [Act.put, List.setIfInBounds_toArray, List.set_cons_zero, List.set_cons_succ]
                  repeat (first
                    | (apply OS.wpO_pure rfl rfl; (focus (intro w'; go_simp; (try rfl); done)); try simp only [Act.put, List.setIfInBounds_toArray, List.set_cons_zero, List.set_cons_succ])
                    | (apply OS.wpO_read rfl rfl; (focus (intro w' hf' hs'; (try simp only [World.size_drew, World.cell?_drew, World.size_alloc, World.size_setCell, not_false_eq_true, forall_const] at hs'); go_simp; (try rfl); done)); try simp only [Act.put, List.setIfInBounds_toArray, List.set_cons_zero, List.set_cons_succ])
                    | (apply OS.wpO_skip (by decide) rfl rfl; try simp only [Act.put, List.setIfInBounds_toArray, List.set_cons_zero, List.set_cons_succ]))
                  refine OS.wpO_nil ?_
                  have hp := HPA.out.rb HR_v6.out
                  rw [held_flat, HDL.out, List.append_assoc, ← HT.out] at hp
                  have HP9 := Lib.hid hp
                  clear hp HR_v3 HR_v4 HR_v5 HR_v6
                  clear m0 m1 m2 m3 ml
                  go_wp2
                  go_roundg (x.held.length - (i + 1))
                  case measure => omega
                  case rel => exact ⟨i + 1, v6, by omega, by go_num, rfl, HP9.out⟩
                · obtain rfl : i = x.held.length := by omega
                  rw [List.take_length] at HP
                  have hLL : P4 ++ x.held.flatMap bytesH = L := by rw [HLL.out, HD4.out, HQ3.out, HD3.out, HQ2.out, HD2.out, HQ1.out, HD1.out]; rfl
                  rw [hLL] at HP
                  clear hLL
                  obtain ⟨A9, c9, rfl, _⟩ := own_shape HP.out.buf
                  have hL0 : (0 : Int) ≤ (L.length : Int) := by omega
                  by_cases hlong : 60000 < L.length
                  · have hlong1 : (60000 : Int) < (L.length : Int) := by omega
                    have HC := Lib.hid (cutB_long hlong)
                    have HF9 := Lib.hid HP.out.fr
                    clear hlong
                    go_wp2
                    go_ret2
                    refine (show RefPutW (cutB L) (errB L) w _ _ from ?_)
                    rw [HC.out.1, HC.out.2]
                    exact ⟨none, 0, by rfl, World.ownsRow_nil _ _ _ _, HF9.out⟩
                  · have hlong1 : ¬ (60000 : Int) < (L.length : Int) := by omega
                    have HC := Lib.hid (cutB_fit hlong)
                    clear hlong
                    go_wp2
                    go_ret2
                    refine (show RefPutW (cutB L) (errB L) w _ _ from ?_)
                    rw [HC.out.1, HC.out.2]
                    exact ⟨A9, c9, by rfl, HP.out.buf, HP.out.fr⟩
end Go.Proofs.Ytegogggemmcgdaa

/- messages as bytes: the plain law. -/
namespace Go.Proofs.Ytegogggemmcgdaa
open Go Go.RowKit Go.Proofs

theorem u8B_at (l : Bs) (i : Nat) : u8B (at8 l i) = l.getD i 0 := by
  apply UInt8.toNat_inj.1
  have h1 := u8B_toNat (at8 l i)
  have h2 := at8_range l i
  have h3 := at8_def l i
  omega
theorem u64N_i64N (u : Nat) (h : u < 18446744073709551616) : u64N (IntKind.i64.wrap (u : Int)) = u := by
  rw [u64N_def, IntKind.wrap_i64]
  omega
theorem i64_u64N (x : Int) (h0 : -9223372036854775808 ≤ x) (h1 : x ≤ 9223372036854775807) : IntKind.i64.wrap ((u64N x : Nat) : Int) = x := by
  rw [u64N_cast, IntKind.wrap_i64]
  omega
theorem num_back (l : Bs) (i : Nat) (h : 4 + i * 8 + 8 ≤ l.length) : leB (u64N (num8 l i)) 8 = (l.drop (4 + i * 8)).take 8 := by
  have hl : ((l.drop (4 + i * 8)).take 8).length = 8 := by rw [List.length_take, List.length_drop]; omega
  have h1 := leN_lt ((l.drop (4 + i * 8)).take 8)
  rw [hl] at h1
  rw [num8_def, u64N_i64N _ (by omega)]
  have := leB_leN ((l.drop (4 + i * 8)).take 8)
  rw [hl] at this
  exact this
theorem take_more (l : Bs) (a b : Nat) : l.take (a + b) = l.take a ++ (l.drop a).take b := List.take_add
theorem take4 (l : Bs) (h : 4 ≤ l.length) : l.take 4 = [l.getD 0 0, l.getD 1 0, l.getD 2 0, l.getD 3 0] := by
  match l, h with
  | a :: b :: c :: d :: r, _ => simp
theorem take1 (l : Bs) (k : Nat) (h : k < l.length) : (l.drop k).take 1 = [l.getD k 0] := by
  rw [List.drop_eq_getElem_cons h, List.getD_eq_getElem?_getD, List.getElem?_eq_getElem h]
  rfl
/-- all but the sum, part by part -/
theorem split_front (l : Bs) (h : 41 ≤ l.length) : l.take (l.length - 4) = [l.getD 0 0, l.getD 1 0, l.getD 2 0, l.getD 3 0] ++ (l.drop 4).take 8 ++ (l.drop 12).take 8 ++ (l.drop 20).take 8 ++ (l.drop 28).take 8 ++ [l.getD 36 0] ++ (l.drop 37).take (l.length - 41) := by
  have e : l.length - 4 = 4 + 8 + 8 + 8 + 8 + 1 + (l.length - 41) := by omega
  rw [e, take_more, take_more, take_more, take_more, take_more, take_more, take4 l (by omega), take1 l _ (by omega)]
theorem front_parse (l : Bs) (h : 41 ≤ l.length) (hfit : 41 + at8 l 36 = (l.length : Int)) : frontM (parse l) = [167, l.getD 1 0, l.getD 2 0, l.getD 3 0] ++ (l.drop 4).take 8 ++ (l.drop 12).take 8 ++ (l.drop 20).take 8 ++ (l.drop 28).take 8 ++ [l.getD 36 0] ++ (l.drop 37).take (l.length - 41) := by
  have n0 := num_back l 0 (by omega)
  have n1 := num_back l 1 (by omega)
  have n2 := num_back l 2 (by omega)
  have n3 := num_back l 3 (by omega)
  have hsz : (strB (txt8 l)).size = l.length - 41 := by rw [strB_size, txt8_def, List.length_take, List.length_drop]; omega
  have h36 : UInt8.ofNat (l.length - 41) = l.getD 36 0 := by
    apply UInt8.toNat_inj.1
    have h1 := at8_def l 36
    have h2 := (l.getD 36 0).toNat_lt
    rw [UInt8.toNat_ofNat']
    omega
  have hd : (strB (txt8 l)).data.toList = txt8 l := by simp [strB]
  rw [frontM_nums, headM_def, textM_eq, parse_def]
  simp only [u8B_at, n0, n1, n2, n3, hsz, h36, hd]
  rw [txt8_def]
  simp only [List.append_assoc, List.cons_append, List.nil_append]
/-- the sum's bytes fit, and the head: then, and only then, a message put again is the same -/
theorem bytes_parse (l : Bs) (h : 41 ≤ l.length) (hfit : 41 + at8 l 36 = (l.length : Int)) : (bytesM (parse l) == l) = fitB l := by
  have hF := split_front l h
  have hP := front_parse l h hfit
  have hFT : l.take (l.length - 4) ++ l.drop (l.length - 4) = l := List.take_append_drop _ _
  have hT : (l.drop (l.length - 4)).length = 4 := by rw [List.length_drop]; omega
  have h0 := at8_def l 0
  have h00 := (l.getD 0 0).toNat_lt
  rw [Bool.eq_iff_iff, fitB_def]
  simp only [beq_iff_eq, Bool.and_eq_true]
  constructor
  · intro he
    rw [bytesM_eq] at he
    have hl1 : (frontM (parse l)).length = (l.take (l.length - 4)).length := by
      rw [hP, hF]
      simp
    have hsp := List.append_inj (he.trans hFT.symm) hl1
    have hz : l.getD 0 0 = 167 := by
      have := hsp.1
      rw [hP, hF] at this
      simp only [List.append_assoc, List.cons_append, List.nil_append, List.cons.injEq] at this
      exact this.1.symm
    refine ⟨?_, hfit, ?_⟩
    · rw [h0, hz]; rfl
    · rw [← hsp.2, leN_leB, hsp.1]
      have := crc_lt (l.take (l.length - 4))
      omega
  · rintro ⟨hz, _, hs⟩
    have hz' : l.getD 0 0 = 167 := by
      apply UInt8.toNat_inj.1
      have : (167 : UInt8).toNat = 167 := rfl
      omega
    have hFP : frontM (parse l) = l.take (l.length - 4) := by rw [hP, hF, hz']
    rw [bytesM_eq, hFP, ← hs]
    have := leB_leN (l.drop (l.length - 4))
    rw [hT] at this
    rw [this, hFT]
/-- a message that is put is got as it was -/
theorem right_nums {m : Msg} (h : rightB m = true) : (0 ≤ m.n ∧ m.n ≤ 4611686018427387904) ∧ (0 ≤ m.low ∧ m.low ≤ 4611686018427387904) ∧ (0 ≤ m.mins ∧ m.mins ≤ 4611686018427387904) ∧ (0 ≤ m.frm ∧ m.frm < 8) ∧ (0 ≤ m.to_ ∧ m.to_ < 8) ∧ (1 ≤ m.kind ∧ m.kind ≤ 9) ∧ m.text.size ≤ 20 := by
  simp only [rightB, inR, linkB, Bool.and_eq_true, decide_eq_true_eq, bne_iff_ne] at h
  omega
theorem getD_mid (a b c : Bs) (i j : Nat) (hi : i = a.length + j) (hj : j < b.length) : (a ++ b ++ c).getD i 0 = b.getD j 0 := by
  subst hi
  simp only [List.getD_eq_getElem?_getD]
  rw [List.append_assoc, List.getElem?_append_right (by omega), Nat.add_sub_cancel_left, List.getElem?_append_left hj]
theorem drop_mid (a b c : Bs) (n k : Nat) (hn : n = a.length) (hk : k = b.length) : ((a ++ b ++ c).drop n).take k = b := by
  subst hn hk
  rw [List.append_assoc, List.drop_left, List.take_left]
theorem put_parse (m : Msg) (h : rightB m = true) (hc0 : -9223372036854775808 ≤ m.code) (hc1 : m.code ≤ 9223372036854775807) : fitB (bytesM m) = true ∧ parse (bytesM m) = m := by
  obtain ⟨⟨n0, n1⟩, ⟨l0, l1⟩, ⟨s0, s1⟩, ⟨f0, f1⟩, ⟨t0, t1⟩, ⟨k0, k1⟩, hts⟩ := right_nums h
  have hlen := bytesM_length m
  have hfl := frontM_length m
  have hdl : m.text.data.toList.length = m.text.size := Array.length_toList
  have hB : bytesM m = [167, u8B m.frm, u8B m.to_, u8B m.kind] ++ leB (u64N m.n) 8 ++ leB (u64N m.low) 8 ++ leB (u64N m.mins) 8 ++ leB (u64N m.code) 8 ++ [UInt8.ofNat m.text.size] ++ m.text.data.toList ++ leB (crc (frontM m)) 4 := by
    rw [bytesM_eq, frontM_nums, headM_def, textM_eq]
    simp only [List.append_assoc, List.cons_append, List.nil_append]
  have ub : ∀ x : Int, 0 ≤ x → x < 256 → ((u8B x).toNat : Int) = x := fun x h0 h1 => by rw [u8B_toNat]; omega
  have g0 : (bytesM m).getD 0 0 = 167 := by rw [hB]; rfl
  have g1 : (bytesM m).getD 1 0 = u8B m.frm := by rw [hB]; rfl
  have g2 : (bytesM m).getD 2 0 = u8B m.to_ := by rw [hB]; rfl
  have g3 : (bytesM m).getD 3 0 = u8B m.kind := by rw [hB]; rfl
  have g36 : (bytesM m).getD 36 0 = UInt8.ofNat m.text.size := by
    rw [hB, List.append_assoc _ m.text.data.toList]
    exact getD_mid _ [UInt8.ofNat m.text.size] _ 36 0 (by simp [leB_length]) (by simp)
  have d0 : ((bytesM m).drop 4).take 8 = leB (u64N m.n) 8 := by
    rw [hB]
    simp only [List.append_assoc]
    rw [← List.append_assoc]
    exact drop_mid _ _ _ 4 8 (by simp) (by rw [leB_length])
  have d1 : ((bytesM m).drop 12).take 8 = leB (u64N m.low) 8 := by
    rw [hB]
    simp only [List.append_assoc]
    rw [← List.append_assoc, ← List.append_assoc]
    exact drop_mid _ _ _ 12 8 (by simp [leB_length]) (by rw [leB_length])
  have d2 : ((bytesM m).drop 20).take 8 = leB (u64N m.mins) 8 := by
    rw [hB]
    simp only [List.append_assoc]
    rw [← List.append_assoc, ← List.append_assoc, ← List.append_assoc]
    exact drop_mid _ _ _ 20 8 (by simp [leB_length]) (by rw [leB_length])
  have d3 : ((bytesM m).drop 28).take 8 = leB (u64N m.code) 8 := by
    rw [hB]
    simp only [List.append_assoc]
    rw [← List.append_assoc, ← List.append_assoc, ← List.append_assoc, ← List.append_assoc]
    exact drop_mid _ _ _ 28 8 (by simp [leB_length]) (by rw [leB_length])
  have dt : ((bytesM m).drop 37).take (m.text.size) = m.text.data.toList := by
    rw [hB]
    exact drop_mid _ _ _ 37 _ (by simp [leB_length]) hdl.symm
  have num : ∀ (i : Nat) (x : Int), ((bytesM m).drop (4 + i * 8)).take 8 = leB (u64N x) 8 → -9223372036854775808 ≤ x → x ≤ 9223372036854775807 → num8 (bytesM m) i = x := fun i x hd h0 h1 => by
    have hu := u64N_lt x
    rw [num8_def, hd, leN_leB, Nat.mod_eq_of_lt (by omega)]
    exact i64_u64N x h0 h1
  have hp : parse (bytesM m) = m := by
    rw [parse_def, num 0 m.n d0 (by omega) (by omega), num 1 m.low d1 (by omega) (by omega), num 2 m.mins d2 (by omega) (by omega), num 3 m.code d3 hc0 hc1, at8_def, at8_def, at8_def, g1, g2, g3,
      ub m.frm f0 (by omega), ub m.to_ t0 (by omega), ub m.kind (by omega) (by omega), txt8_def, hlen, show 41 + m.text.size - 41 = m.text.size by omega, dt, strB_data]
  refine ⟨?_, hp⟩
  have hfit : 41 + at8 (bytesM m) 36 = ((bytesM m).length : Int) := by
    rw [at8_def, g36, hlen]
    have : (UInt8.ofNat m.text.size).toNat = m.text.size % 256 := UInt8.toNat_ofNat'
    omega
  rw [← bytes_parse (bytesM m) (by omega) hfit, hp]
  simp
end Go.Proofs.Ytegogggemmcgdaa

/- codec, the plain law: what is written is read back. -/
namespace Go.Proofs.Ytegogggemmcgdaa
open Go Go.RowKit Go.Proofs

def I64 (n : Int) : Prop := -9223372036854775808 ≤ n ∧ n ≤ 9223372036854775807
theorem numS_back (n z : Int) (rest : Bs) (h : I64 n) : numS (false, leB (u64N n) 8 ++ rest) z = ((false, rest), n) := by
  have hl : ¬ (leB (u64N n) 8 ++ rest).length < 8 := by rw [List.length_append, leB_length]; omega
  have ht : (leB (u64N n) 8 ++ rest).take 8 = leB (u64N n) 8 := by rw [List.take_append_of_le_length (by rw [leB_length]; omega), List.take_of_length_le (by rw [leB_length]; omega)]
  have hd : (leB (u64N n) 8 ++ rest).drop 8 = rest := by rw [List.drop_append_of_le_length (by rw [leB_length]; omega), List.drop_of_length_le (by rw [leB_length]; omega), List.nil_append]
  unfold numS
  simp only [hl, decide_false, Bool.or_false, Bool.false_eq_true, if_false, ht, hd]
  rw [leN_leB, Nat.mod_eq_of_lt (by have := u64N_lt n; omega), i64_u64N n h.1 h.2]
theorem truthS_back (is z : Bool) (rest : Bs) : truthS (false, bitB is ++ rest) z = ((false, rest), is) := by
  cases is <;> rfl
theorem manyS_back (n : Nat) (z most : Int) (rest : Bs) (h : (n : Int) ≤ most) (hm : most ≤ 9223372036854775807) : manyS (false, leB (u64N n) 8 ++ rest) z most = ((false, rest), (n : Int)) := by
  unfold manyS
  rw [numS_back n z rest ⟨by omega, by omega⟩]
  have h1 : ¬ (n : Int) < 0 := by omega
  have h2 : ¬ most < (n : Int) := by omega
  simp only [h1, h2, decide_false, Bool.or_false]
theorem textS_back (s z : ByteArray) (most : Int) (rest : Bs) (h : (s.size : Int) ≤ most) (hm : most ≤ 9223372036854775807) : textS (false, textB s ++ rest) z most = ((false, rest), s) := by
  have hs : s.data.toList.length = s.size := Array.length_toList
  unfold textS
  rw [textB_eq, List.append_assoc, manyS_back s.size _ most _ h hm]
  have h1 : ¬ (((s.data.toList ++ rest).length : Int) < (s.size : Int)) := by rw [List.length_append, hs]; omega
  simp only [h1, decide_false, Bool.or_false, Bool.false_eq_true, if_false, Int.toNat_natCast]
  rw [List.take_append_of_le_length (by omega), List.take_of_length_le (by omega), List.drop_append_of_le_length (by omega), List.drop_of_length_le (by omega), List.nil_append, strB_data]
theorem foldR_back {α : Type} (rs : RS → RS × α) (bytes : α → Bs) : ∀ (xs : List α) (acc : List α) (rest : Bs), (∀ x ∈ xs, ∀ r, rs (false, bytes x ++ r) = ((false, r), x)) → foldR rs xs.length (false, xs.flatMap bytes ++ rest) acc = ((false, rest), acc ++ xs)
  | [], acc, rest, _ => by rw [List.length_nil, foldR_zero, List.flatMap_nil, List.nil_append, List.append_nil]
  | x :: xs, acc, rest, h => by
    rw [List.length_cons, foldR_succ, List.flatMap_cons, List.append_assoc, h x List.mem_cons_self, foldR_back rs bytes xs _ rest (fun y hy => h y (List.mem_cons_of_mem _ hy)), List.append_assoc]
    rfl
theorem listS_back {α : Type} (rs : RS → RS × α) (bytes : α → Bs) (xs : List α) (most : Int) (rest : Bs) (h : ∀ x ∈ xs, ∀ r, rs (false, bytes x ++ r) = ((false, r), x)) (hl : (xs.length : Int) ≤ most) (hm : most ≤ 9223372036854775807) :
    listS rs (false, leB (u64N xs.length) 8 ++ (xs.flatMap bytes ++ rest)) most = ((false, rest), xs) := by
  unfold listS
  rw [manyS_back xs.length 0 most _ hl hm]
  simp only [Int.toNat_natCast]
  rw [foldR_back rs bytes xs [] rest h, List.nil_append]
structure EvOk (x : EvS) : Prop where
  kind : I64 x.kind
  n : I64 x.n
  code : I64 x.code
  keep : ∀ y ∈ x.keep, I64 y
def evTail (x : EvS) : Bs := leB (u64N x.kind) 8 ++ (leB (u64N x.n) 8 ++ (leB (u64N x.code) 8 ++ (textB x.name ++ (leB (u64N x.keep.length) 8 ++ (x.keep.flatMap keepB ++ [])))))
theorem evAll_tail (x : EvS) : evAll x = 225 :: evTail x := by
  unfold evAll evTail
  rw [← evPre_flat]
  simp only [List.append_assoc, List.append_nil]
  rfl
theorem evBad_no {x : EvS} (h : evBad x = false) : x.name.size ≤ 255 ∧ x.keep.length ≤ 255 := by
  unfold evBad at h
  simp only [Bool.or_eq_false_iff, decide_eq_false_iff_not] at h
  exact ⟨longB_no h.1, by omega⟩
theorem evS_back (x : EvS) (h : EvOk x) (hb : evBad x = false) : evS (false, evTail x) = ((false, []), x) := by
  obtain ⟨h1, h2⟩ := evBad_no hb
  unfold evS evTail
  simp only
  rw [numS_back x.kind 0 _ h.kind]
  simp only
  rw [numS_back x.n 0 _ h.n]
  simp only
  rw [numS_back x.code 0 _ h.code]
  simp only
  rw [textS_back x.name _ 255 _ (by omega) (by omega)]
  simp only
  rw [listS_back (fun s => numS s 0) keepB x.keep 255 [] (fun y hy r => numS_back y 0 r (h.keep y hy)) (by omega) (by omega)]
theorem evTail_length (x : EvS) : (evTail x).length = 40 + x.name.size + 8 * x.keep.length := by
  unfold evTail
  simp only [List.length_append, leB_length, textB_length, keep_length, List.length_nil]
  omega
theorem fin_ok : fin (false, []) = true := by rw [← fin_def]; rfl
theorem getEv_back (x : EvS) (h : EvOk x) (hb : evBad x = false) : getEvS (evAll x) = (x, 0) := by
  obtain ⟨h1, h2⟩ := evBad_no hb
  rw [evAll_tail, getEvS_cons]
  have e : openS 225 (evTail x) 225 = (false, evTail x) := by
    unfold openS
    have h3 : ¬ 60000 < (evTail x).length + 1 := by rw [evTail_length]; omega
    simp [h3]
  rw [e, evS_back x h hb]
  simp only [fin_ok, if_true]
structure JOk (x : JSt) : Prop where
  id : I64 x.id
  job : I64 x.job
  day : I64 x.day
  state : I64 x.state
  runs : I64 x.runs
  tries : I64 x.tries
  run : I64 x.run
  at_ : I64 x.at_
theorem jobS_back (x : JSt) (h : JOk x) (r : Bs) : jobS (false, bytesJ x ++ r) = ((false, r), x) := by
  unfold jobS bytesJ
  simp only [numB_cons, numB_nil, List.append_assoc, List.append_nil, List.nil_append]
  rw [numS_back x.id 0 _ h.id]
  simp only
  rw [numS_back x.job 0 _ h.job]
  simp only
  rw [numS_back x.day 0 _ h.day]
  simp only
  rw [numS_back x.state 0 _ h.state]
  simp only
  rw [truthS_back x.hold]
  simp only
  rw [truthS_back x.force]
  simp only
  rw [numS_back x.runs 0 _ h.runs]
  simp only
  rw [numS_back x.tries 0 _ h.tries]
  simp only
  rw [numS_back x.run 0 _ h.run]
  simp only
  rw [numS_back x.at_ 0 _ h.at_]
theorem condS_back (x : CondS) (h : I64 x.day) (hn : x.name.size ≤ 255) (r : Bs) : condS (false, bytesC x ++ r) = ((false, r), x) := by
  unfold condS bytesC
  rw [List.append_assoc]
  simp only
  rw [textS_back x.name _ 255 _ (by omega) (by omega)]
  simp only
  rw [numS_back x.day 0 _ h]
theorem resS_back (x : ResS) (h : I64 x.units) (hn : x.name.size ≤ 255) (r : Bs) : resS (false, bytesR x ++ r) = ((false, r), x) := by
  unfold resS bytesR
  simp only [List.append_assoc]
  rw [textS_back x.name _ 255 _ (by omega) (by omega)]
  simp only
  rw [numS_back x.units 0 _ h]
  simp only
  rw [truthS_back x.lock]
structure HOk (x : HeldS) : Prop where
  owner : I64 x.owner
  n : I64 x.n
  mode : I64 x.mode
theorem heldS_back (x : HeldS) (h : HOk x) (hn : x.name.size ≤ 255) (r : Bs) : heldS (false, bytesH x ++ r) = ((false, r), x) := by
  unfold heldS bytesH
  simp only [List.append_assoc]
  rw [numS_back x.owner 0 _ h.owner]
  simp only
  rw [textS_back x.name _ 255 _ (by omega) (by omega)]
  simp only
  rw [numS_back x.n 0 _ h.n]
  simp only
  rw [numS_back x.mode 0 _ h.mode]
end Go.Proofs.Ytegogggemmcgdaa

/- codec, the plain law for states. -/
namespace Go.Proofs.Ytegogggemmcgdaa
open Go Go.RowKit Go.Proofs

section
variable {α : Type} {bytes : α → Bs} {pbad : α → Bool}
theorem foldW_cons (x : α) (xs : List α) (l : Bs) : foldW bytes pbad (x :: xs) l false = foldW bytes pbad xs (l ++ bytes x) (pbad x) := by
  have := foldW_drop bytes pbad (xs := x :: xs) (i := 0) (x := x) rfl l
  simpa using this
theorem foldW_any : ∀ (xs : List α) (l : Bs), (foldW bytes pbad xs l false).2 = xs.any pbad ∧ (xs.any pbad = false → (foldW bytes pbad xs l false).1 = l ++ xs.flatMap bytes)
  | [], l => by rw [foldW_nil]; simp
  | x :: xs, l => by
    rw [foldW_cons]
    cases hx : pbad x
    · have h := foldW_any xs (l ++ bytes x)
      refine ⟨by rw [h.1, List.any_cons, hx]; rfl, fun ha => ?_⟩
      rw [List.any_cons, hx, Bool.false_or] at ha
      rw [h.2 ha, List.flatMap_cons, List.append_assoc]
    · rw [foldW_bad]
      refine ⟨by rw [List.any_cons, hx]; rfl, fun ha => ?_⟩
      rw [List.any_cons, hx] at ha
      cases ha
theorem listW_any (xs : List α) (most : Nat) (l : Bs) (bad : Bool) : (listW bytes pbad xs most l bad).2 = (bad || decide (most < xs.length) || xs.any pbad) ∧
    ((bad || decide (most < xs.length) || xs.any pbad) = false → (listW bytes pbad xs most l bad).1 = l ++ leB (u64N xs.length) 8 ++ xs.flatMap bytes) := by
  unfold listW
  cases hb : (bad || decide (most < xs.length))
  · have h := foldW_any (bytes := bytes) (pbad := pbad) xs (l ++ leB (u64N xs.length) 8)
    exact ⟨by rw [h.1]; rfl, fun ha => h.2 (by simpa using ha)⟩
  · rw [foldW_bad]
    exact ⟨rfl, fun ha => by cases ha⟩
end
theorem any_no {α : Type} (xs : List α) : xs.any (noBad (α := α)) = false := by simp [noBad]
theorem or_shuffle (a b c d e f g h : Bool) : (((a || b || false) || c || f || d || g) || e || h) = (a || b || c || d || e || (f || g || h)) := by
  cases a <;> cases b <;> cases c <;> cases d <;> cases e <;> cases f <;> cases g <;> rfl
theorem stW_eq (source : ByteArray) (x : StS) : (stW source x [87]).2 = largeB source x ∧ (largeB source x = false → (stW source x [87]).1 = stAll source x) := by
  have key : ∀ s1 s2 s3, s1 = listW bytesJ noBad x.jobs 4096 (stPre source x [87]) (decide (8192 < source.size)) → s2 = listW bytesC badC x.conds 4096 s1.1 s1.2 → s3 = listW bytesR badR x.res 4096 s2.1 s2.2 →
      (listW bytesH badH x.held 4096 s3.1 s3.2).2 = largeB source x ∧ (largeB source x = false → (listW bytesH badH x.held 4096 s3.1 s3.2).1 = stAll source x) := by
    intro s1 s2 s3 h1 h2 h3
    have a1 := listW_any (bytes := bytesJ) (pbad := noBad) x.jobs 4096 (stPre source x [87]) (decide (8192 < source.size))
    rw [← h1, any_no] at a1
    have a2 := listW_any (bytes := bytesC) (pbad := badC) x.conds 4096 s1.1 s1.2
    rw [← h2] at a2
    have a3 := listW_any (bytes := bytesR) (pbad := badR) x.res 4096 s2.1 s2.2
    rw [← h3] at a3
    have a4 := listW_any (bytes := bytesH) (pbad := badH) x.held 4096 s3.1 s3.2
    have e : (s3.2 || decide (4096 < x.held.length) || x.held.any badH) = largeB source x := by
      rw [a3.1, a2.1, a1.1]
      exact or_shuffle _ _ _ _ _ _ _ _
    refine ⟨a4.1.trans e, fun hl => ?_⟩
    rw [← e] at hl
    have h4 := a4.2 hl
    simp only [Bool.or_eq_false_iff] at hl
    have b3 := a3.1.symm.trans hl.1.1
    have c3 := a3.2 b3
    simp only [Bool.or_eq_false_iff] at b3
    have b2 := a2.1.symm.trans b3.1.1
    have c2 := a2.2 b2
    simp only [Bool.or_eq_false_iff] at b2
    have b1 := a1.1.symm.trans b2.1.1
    have c1 := a1.2 b1
    rw [h4, c3, c2, c1]
    rfl
  exact key _ _ _ rfl rfl rfl
def putStL (source : ByteArray) (x : StS) : Bs := if largeB source x then [] else cutB (stAll source x)
def putStE (source : ByteArray) (x : StS) : Int := if largeB source x then 3 else errB (stAll source x)
theorem cutSt_eq (source : ByteArray) (x : StS) : cutW (stW source x [87]) = putStL source x ∧ errW (stW source x [87]) = putStE source x := by
  have h := stW_eq source x
  rw [← cutW_eq, ← errW_eq]
  unfold putStL putStE
  rw [h.1]
  cases hb : largeB source x
  · rw [h.2 hb]
    by_cases hl : 60000 < (stAll source x).length
    · simp [hl, (cutB_long hl).1, (cutB_long hl).2]
    · simp [hl, (cutB_fit hl).1, (cutB_fit hl).2]
  · exact ⟨rfl, rfl⟩
/-- either an error, or all bytes -/
theorem putSt_cases (source : ByteArray) (x : StS) : (putStE source x = 3 ∧ putStL source x = []) ∨ (putStE source x = 0 ∧ putStL source x = stAll source x ∧ largeB source x = false ∧ (stAll source x).length ≤ 60000) := by
  unfold putStL putStE
  cases hb : largeB source x
  · by_cases hl : 60000 < (stAll source x).length
    · exact .inl ⟨by simp [(cutB_long hl).2], by simp [(cutB_long hl).1]⟩
    · exact .inr ⟨by simp [(cutB_fit hl).2], by simp [(cutB_fit hl).1], rfl, by omega⟩
  · exact .inl ⟨rfl, rfl⟩
attribute [irreducible] putStL putStE
/-- numbers that fit -/
structure StI (x : StS) : Prop where
  clock : I64 x.clock
  day : I64 x.day
  id : I64 x.id
  run : I64 x.run
  jobs : ∀ y ∈ x.jobs, JOk y
  conds : ∀ y ∈ x.conds, I64 y.day
  res : ∀ y ∈ x.res, I64 y.units
  held : ∀ y ∈ x.held, HOk y
def stTail (source : ByteArray) (x : StS) : Bs :=
  textB source ++ (leB (u64N x.clock) 8 ++ (leB (u64N x.day) 8 ++ (leB (u64N x.id) 8 ++ (leB (u64N x.run) 8 ++ (leB (u64N x.jobs.length) 8 ++ (x.jobs.flatMap bytesJ ++ (leB (u64N x.conds.length) 8 ++ (x.conds.flatMap bytesC ++ (leB (u64N x.res.length) 8 ++ (x.res.flatMap bytesR ++ (leB (u64N x.held.length) 8 ++ (x.held.flatMap bytesH ++ []))))))))))))
theorem stAll_tail (source : ByteArray) (x : StS) : stAll source x = 87 :: stTail source x := by
  unfold stAll stTail
  rw [← stPre_flat]
  simp only [List.append_assoc, List.append_nil]
  rfl
theorem stS_back (source : ByteArray) (x : StS) (h : StI x) (hb : largeB source x = false) : stS (false, stTail source x) = ((false, []), source, x) := by
  obtain ⟨⟨h1, h2, h3, h4, h5⟩, n1, n2, n3⟩ := largeB_no hb
  unfold stS stTail
  simp only
  rw [textS_back source _ 8192 _ (by omega) (by omega)]
  simp only
  rw [numS_back x.clock 0 _ h.clock]
  simp only
  rw [numS_back x.day 0 _ h.day]
  simp only
  rw [numS_back x.id 0 _ h.id]
  simp only
  rw [numS_back x.run 0 _ h.run]
  simp only
  rw [listS_back jobS bytesJ x.jobs 4096 _ (fun y hy r => jobS_back y (h.jobs y hy) r) (by omega) (by omega)]
  simp only
  rw [listS_back condS bytesC x.conds 4096 _ (fun y hy r => condS_back y (h.conds y hy) (n1 y hy) r) (by omega) (by omega)]
  simp only
  rw [listS_back resS bytesR x.res 4096 _ (fun y hy r => resS_back y (h.res y hy) (n2 y hy) r) (by omega) (by omega)]
  simp only
  rw [listS_back heldS bytesH x.held 4096 [] (fun y hy r => heldS_back y (h.held y hy) (n3 y hy) r) (by omega) (by omega)]
theorem getSt_back (source : ByteArray) (x : StS) (h : StI x) (hb : largeB source x = false) (hl : (stAll source x).length ≤ 60000) : getStS (stAll source x) = (source, x, 0) := by
  rw [stAll_tail] at hl ⊢
  rw [getStS_cons]
  have e : openS 87 (stTail source x) 87 = (false, stTail source x) := by
    unfold openS
    have h3 : ¬ 60000 < (stTail source x).length + 1 := by rw [List.length_cons] at hl; omega
    simp [h3]
  rw [e, stS_back source x h hb]
  simp only [fin_ok, if_true]
end Go.Proofs.Ytegogggemmcgdaa

/- codec, the plain law: bytes that are cut are none; neither is taken for the other. -/
namespace Go.Proofs.Ytegogggemmcgdaa
open Go Go.RowKit Go.Proofs

section
variable {α β : Type}
/-- what is bad stays so; what is read out of bytes is read out of more bytes -/
structure Stable (rs : RS → RS × α) : Prop where
  bad : ∀ l, (rs (true, l)).1.1 = true
  more : ∀ a r y, rs (false, a) = ((false, r), y) → ∀ z, rs (false, a ++ z) = ((false, r ++ z), y)
def bindS (rs : RS → RS × α) (k : α → RS → RS × β) (s : RS) : RS × β := k (rs s).2 (rs s).1
theorem Stable.bind {rs : RS → RS × α} {k : α → RS → RS × β} (h : Stable rs) (hk : ∀ a, Stable (k a)) : Stable (bindS rs k) := by
  refine ⟨fun l => ?_, fun a r y e z => ?_⟩
  · unfold bindS
    have h1 := h.bad l
    generalize rs (true, l) = x at h1 ⊢
    obtain ⟨⟨b, t⟩, v⟩ := x
    simp only at h1
    subst h1
    exact (hk v).bad t
  · unfold bindS at e ⊢
    have h1 := h.more a
    generalize rs (false, a) = x at e h1
    obtain ⟨⟨b, t⟩, v⟩ := x
    cases b
    · rw [h1 t v rfl z]
      exact (hk v).more t r y e z
    · have := (hk v).bad t
      simp only at e
      rw [e] at this
      cases this
theorem Stable.pure (v : α) : Stable (fun s => (s, v)) := ⟨fun _ => rfl, fun a r y e z => by
  injection e with e1 e2
  injection e1 with _ e1
  subst e1 e2
  rfl⟩
end
theorem numS_stable (n : Int) : Stable (fun s => numS s n) := by
  refine ⟨fun l => ?_, fun a r y e z => ?_⟩
  · simp [numS]
  · unfold numS at e ⊢
    by_cases h : a.length < 8
    · simp [h] at e
    · have h2 : ¬ (a ++ z).length < 8 := by rw [List.length_append]; omega
      simp only [h, h2, decide_false, Bool.or_false, Bool.false_eq_true, if_false] at e ⊢
      injection e with e1 e2
      injection e1 with _ e1
      subst e1 e2
      rw [List.take_append_of_le_length (by omega), List.drop_append_of_le_length (by omega)]
theorem truthS_stable (is : Bool) : Stable (fun s => truthS s is) := by
  refine ⟨fun l => ?_, fun a r y e z => ?_⟩
  · cases l <;> simp [truthS]
  · cases a with
    | nil => simp [truthS] at e
    | cons b t =>
      simp only [truthS, List.cons_append] at e ⊢
      by_cases h : 1 < b.toNat
      · simp [h] at e
      · simp only [h, decide_false, Bool.or_false, Bool.false_eq_true, if_false] at e ⊢
        injection e with e1 e2
        injection e1 with _ e1
        subst e1 e2
        rfl
theorem manyS_stable (n most : Int) : Stable (fun s => manyS s n most) := by
  have h := numS_stable n
  refine ⟨fun l => ?_, fun a r y e z => ?_⟩
  · have := h.bad l
    try simp only at this
    simp [manyS, this]
  · unfold manyS at e ⊢
    have h1 := h.more a
    try simp only at h1
    generalize numS (false, a) n = x at e h1
    obtain ⟨⟨b, t⟩, v⟩ := x
    injection e with e1 e2
    injection e1 with e0 e1
    simp only [Bool.or_eq_false_iff] at e0
    obtain ⟨⟨rfl, e3⟩, e4⟩ := e0
    simp only at e1 e2
    subst e1 e2
    rw [h1 t v rfl z]
    simp only [e3, e4, Bool.or_false]
theorem textS_stable (str : ByteArray) (most : Int) : Stable (fun s => textS s str most) := by
  have h := manyS_stable (str.size : Int) most
  refine ⟨fun l => ?_, fun a r y e z => ?_⟩
  · have := h.bad l
    try simp only at this
    simp [textS, this]
  · unfold textS at e ⊢
    have h1 := h.more a
    try simp only at h1
    have h0 : (manyS (false, a) (str.size : Int) most).1.1 = false → 0 ≤ (manyS (false, a) (str.size : Int) most).2 := fun hz => by
      unfold manyS at hz ⊢
      simp only [Bool.or_eq_false_iff, decide_eq_false_iff_not] at hz
      simp only
      omega
    generalize manyS (false, a) (str.size : Int) most = x at e h1 h0
    obtain ⟨⟨b, t⟩, v⟩ := x
    simp only at e h0
    cases b
    · have hv := h0 rfl
      by_cases hl : (t.length : Int) < v
      · simp [hl] at e
      · have hl2 : ¬ ((t ++ z).length : Int) < v := by rw [List.length_append]; omega
        rw [h1 t v rfl z]
        simp only [hl, hl2, decide_false, Bool.or_false, Bool.false_eq_true, if_false] at e ⊢
        injection e with e1 e2
        injection e1 with _ e1
        subst e1 e2
        rw [List.take_append_of_le_length (by omega), List.drop_append_of_le_length (by omega)]
    · simp at e
theorem foldR_stable {α : Type} {rs : RS → RS × α} (h : Stable rs) : ∀ (k : Nat) (acc : List α), Stable (fun s => foldR rs k s acc)
  | 0, acc => by
    refine ⟨fun l => by simp only [foldR_zero], fun a r y e z => ?_⟩
    simp only [foldR_zero] at e ⊢
    injection e with e1 e2
    injection e1 with _ e1
    subst e1 e2
    rfl
  | k + 1, acc => by
    refine ⟨fun l => by simp only [foldR_bad], fun a r y e z => ?_⟩
    have hb := Stable.bind h (fun x => foldR_stable h k (acc ++ [x]))
    simp only [foldR_succ] at e ⊢
    exact hb.more a r y e z
theorem listS_stable {α : Type} {rs : RS → RS × α} (h : Stable rs) (most : Int) : Stable (fun s => listS rs s most) :=
  Stable.bind (manyS_stable 0 most) (fun n => foldR_stable h n.toNat [])
theorem evS_stable : Stable evS := by
  have := Stable.bind (numS_stable 0) fun a => Stable.bind (numS_stable 0) fun b => Stable.bind (numS_stable 0) fun c => Stable.bind (textS_stable ⟨#[]⟩ 255) fun d =>
    Stable.bind (listS_stable (numS_stable 0) 255) fun e => Stable.pure (EvS.mk a b c d e)
  unfold evS
  exact this
theorem jobS_stable : Stable jobS := by
  have := Stable.bind (numS_stable 0) fun a => Stable.bind (numS_stable 0) fun b => Stable.bind (numS_stable 0) fun c => Stable.bind (numS_stable 0) fun d => Stable.bind (truthS_stable false) fun e => Stable.bind (truthS_stable false) fun f =>
    Stable.bind (numS_stable 0) fun g => Stable.bind (numS_stable 0) fun h => Stable.bind (numS_stable 0) fun i => Stable.bind (numS_stable 0) fun j => Stable.pure (JSt.mk a b c d e f g h i j)
  unfold jobS
  exact this
theorem condS_stable : Stable condS := by
  have := Stable.bind (textS_stable ⟨#[]⟩ 255) fun a => Stable.bind (numS_stable 0) fun b => Stable.pure (CondS.mk a b)
  unfold condS
  exact this
theorem resS_stable : Stable resS := by
  have := Stable.bind (textS_stable ⟨#[]⟩ 255) fun a => Stable.bind (numS_stable 0) fun b => Stable.bind (truthS_stable false) fun c => Stable.pure (ResS.mk a b c)
  unfold resS
  exact this
theorem heldS_stable : Stable heldS := by
  have := Stable.bind (numS_stable 0) fun a => Stable.bind (textS_stable ⟨#[]⟩ 255) fun b => Stable.bind (numS_stable 0) fun c => Stable.bind (numS_stable 0) fun d => Stable.pure (HeldS.mk a b c d)
  unfold heldS
  exact this
theorem stS_stable : Stable stS := by
  have := Stable.bind (textS_stable ⟨#[]⟩ 8192) fun t => Stable.bind (numS_stable 0) fun a => Stable.bind (numS_stable 0) fun b => Stable.bind (numS_stable 0) fun c => Stable.bind (numS_stable 0) fun d =>
    Stable.bind (listS_stable jobS_stable 4096) fun e => Stable.bind (listS_stable condS_stable 4096) fun f => Stable.bind (listS_stable resS_stable 4096) fun g => Stable.bind (listS_stable heldS_stable 4096) fun h =>
      Stable.pure (t, StS.mk a b c d e f g h)
  unfold stS
  exact this
theorem fin_bad {s : RS} (h : s.1 = true) : fin s = false := by rw [← fin_def, h]; rfl
theorem fin_yes {s : RS} (h : fin s = true) : s = (false, []) := by
  rw [← fin_def] at h
  obtain ⟨b, l⟩ := s
  simp only [Bool.and_eq_true, Bool.not_eq_true', List.isEmpty_iff] at h
  rw [h.1, h.2]
/-- a part of what is read whole is not read whole -/
theorem Stable.cut {α : Type} {rs : RS → RS × α} (h : Stable rs) {l : Bs} {x : α} (hl : rs (false, l) = ((false, []), x)) {k : Nat} (hk : k < l.length) (b : Bool) : fin (rs (b, l.take k)).1 = false := by
  cases b
  · cases hf : fin (rs (false, l.take k)).1 with
    | false => rfl
    | true =>
      have h1 := fin_yes hf
      have h2 := h.more (l.take k) [] (rs (false, l.take k)).2 (by rw [← h1]) (l.drop k)
      rw [List.take_append_drop, hl] at h2
      injection h2 with h2 _
      injection h2 with _ h2
      have := congrArg List.length h2
      rw [List.nil_append, List.length_nil, List.length_drop] at this
      omega
  · exact fin_bad (h.bad _)
theorem openS_shape (b0 k : UInt8) (r : Bs) : ∃ b, openS b0 r k = (b, r) ∧ (b0 ≠ k → b = true) := by
  refine ⟨(openS b0 r k).1, ?_, ?_⟩ <;> unfold openS
  · rfl
  · intro h; simp [h]
theorem getEv_cut (x : EvS) (h : EvOk x) (hb : evBad x = false) {k : Nat} (hk : k < (evAll x).length) : (getEvS ((evAll x).take k)).2 = 10 ∨ (getEvS ((evAll x).take k)).2 = 11 := by
  rw [evAll_tail] at hk ⊢
  cases k with
  | zero => left; rw [List.take_zero, getEvS_nil]
  | succ k =>
    right
    rw [List.take_succ_cons, getEvS_cons]
    obtain ⟨b, e, _⟩ := openS_shape 225 225 ((evTail x).take k)
    rw [e, evS_stable.cut (evS_back x h hb) (by simpa using hk) b]
    rfl
theorem getSt_cut (source : ByteArray) (x : StS) (h : StI x) (hb : largeB source x = false) {k : Nat} (hk : k < (stAll source x).length) : (getStS ((stAll source x).take k)).2.2 = 10 ∨ (getStS ((stAll source x).take k)).2.2 = 11 := by
  rw [stAll_tail] at hk ⊢
  cases k with
  | zero => left; rw [List.take_zero, getStS_nil]
  | succ k =>
    right
    rw [List.take_succ_cons, getStS_cons]
    obtain ⟨b, e, _⟩ := openS_shape 87 87 ((stTail source x).take k)
    rw [e, stS_stable.cut (stS_back source x h hb) (by simpa using hk) b]
    rfl
theorem getEv_other (source : ByteArray) (x : StS) : (getEvS (stAll source x)).2 = 11 := by
  rw [stAll_tail, getEvS_cons]
  obtain ⟨b, e, hb⟩ := openS_shape 87 225 (stTail source x)
  obtain rfl := hb (by decide)
  rw [e, fin_bad (evS_stable.bad _)]
  rfl
theorem getSt_other (x : EvS) : (getStS (evAll x)).2.2 = 11 := by
  rw [evAll_tail, getStS_cons]
  obtain ⟨b, e, hb⟩ := openS_shape 225 87 (evTail x)
  obtain rfl := hb (by decide)
  rw [e, fin_bad (stS_stable.bad _)]
  rfl
end Go.Proofs.Ytegogggemmcgdaa

/- the reference's scan: numbers, counts, texts, truths read. -/
namespace Go.Proofs.Ytegogggemmcgdaa
open Go Go.RowKit Go.Proofs

/-- bytes that are read; they lie below base -/
def ScanAt (w : World) (p base : Nat) (s : RS) : Prop :=
  ∃ A c e, Blk w p 136 [.slice A s.2.length c, .bool s.1] ∧ Sl w e 1 A s.2.length (enc8 s.2) ∧ (∀ a, A = some a → a.block < base) ∧ s.2.length ≤ c ∧ s.2.length ≤ maxLen
abbrev FrS (p : Nat) (w w' : World) : Prop := Fr (fun i => i = p) w w'
theorem ScanAt.fr {w w' : World} {p base : Nat} {s : RS} {S : Nat → Prop} (h : ScanAt w p base s) (hf : Fr S w w') (hp : ¬ S p) (hS : ∀ k, S k → base ≤ k) : ScanAt w' p base s := by
  obtain ⟨A, c, e, hB, hs, hA, hc, hm⟩ := h
  exact ⟨A, c, e, hB.fr hf hp, hs.under hA hf hS, hA, hc, hm⟩
theorem ScanAt.fr0 {w w' : World} {p base : Nat} {s : RS} (h : ScanAt w p base s) (hf : Fr No w w') : ScanAt w' p base s := h.fr hf (fun h => h) (fun _ h => h.elim)
theorem ScanAt.bad {w : World} {p base : Nat} {s : RS} (h : ScanAt w p base s) (hp : base ≤ p) : ScanAt (w.setCell ⟨p, 1, none⟩ (.bool true)) p base (true, s.2) := by
  obtain ⟨A, c, e, hB, hs, hA, hc, hm⟩ := h
  exact ⟨A, c, e, hB.set_ 1 (.bool true), hs.under hA ((Fr.refl (fun i => i = p) w).setCell (p := ⟨p, 1, none⟩) (.inl rfl) (.bool true)) (fun k hk => hk ▸ hp), hA, hc, hm⟩
theorem ScanAt.lt {w : World} {p base : Nat} {s : RS} (h : ScanAt w p base s) : p < w.heap.size := by
  obtain ⟨A, c, e, hB, _⟩ := h
  exact hB.lt
theorem ScanAt.blk {w : World} {p base : Nat} {s : RS} (h : ScanAt w p base s) : ∃ cs, Blk w p 136 cs := by
  obtain ⟨A, c, e, hB, _⟩ := h
  exact ⟨_, hB⟩
theorem FrS.put {w w1 : World} {p : Nat} (h : FrS p w w1) (i : Nat) (u : Value) : FrS p w (w1.setCell ⟨p, i, none⟩ u) := Fr.setCell (S := fun i => i = p) h (p := ⟨p, i, none⟩) (.inl rfl) u
theorem FrS.refl (p : Nat) (w : World) : FrS p w w := Fr.refl _ w
set_option maxRecDepth 100000 in
set_option maxHeartbeats 1000000 in
theorem numT_any (p base : Nat) (s : RS) (w : World) (h : ScanAt w p base s) (hp : base ≤ p) :
    Calls Try.prog 71 #[.pointer (some ⟨p, 0, none⟩)] w fun e w' => e = .returned (.int .i64 (numS s 0).2) ∧ ScanAt w' p base (numS s 0).1 ∧ FrS p w w' := by
  obtain ⟨bd, rest⟩ := s
  by_cases hbad : (bd || decide (rest.length < 8)) = true
  · have e0 : numS (bd, rest) 0 = ((true, rest), 0) := by simp only [numS, hbad, if_true]
    rw [e0]
    clear e0
    obtain ⟨A, c, e, hB, hsl, hA, hcap, hmx⟩ := h
    have HP : Hid (ScanAt w p base _) := Lib.hid ⟨A, c, e, hB, hsl, hA, hcap, hmx⟩
    have c0 := hB.cell 0
    have c1 := hB.cell 1
    have c2 := hB.lt
    have c3 := hB.frozens
    simp only [List.getElem?_cons_zero, List.getElem?_cons_succ] at c0 c1
    have HB := Lib.hid hB
    have HSL := Lib.hid hsl
    have HA := Lib.hid hA
    have HCP := Lib.hid hcap
    have HMX := Lib.hid hmx
    clear hB hsl hA hcap hmx
    have hl0 : (0 : Int) ≤ (rest.length : Int) := by omega
    cases bd
    · have h8 : (rest.length : Int) < 8 := by have : rest.length < 8 := (by simpa using hbad); omega
      clear hbad
      go_enter Try.func71, Try.ntmps71
      go_wp2
      go_ret
      exact ⟨rfl, HP.out.bad hp, (FrS.refl p w).put 1 _⟩
    · clear hbad
      go_enter Try.func71, Try.ntmps71
      go_wp2
      go_ret
      exact ⟨rfl, HP.out.bad hp, (FrS.refl p w).put 1 _⟩
  · simp only [Bool.or_eq_true, decide_eq_true_eq, not_or, Bool.not_eq_true] at hbad
    obtain ⟨rfl, hl8⟩ := hbad
    have e0 : numS (false, rest) 0 = ((false, rest.drop 8), IntKind.i64.wrap ((leN (rest.take 8) : Nat) : Int)) := by
      simp only [numS, hl8, decide_false, Bool.or_false, Bool.false_eq_true, if_false]
    rw [e0]
    clear e0
    have h8 : 8 ≤ rest.length := by omega
    have h8i : ¬ (rest.length : Int) < 8 := by omega
    obtain ⟨A, c, e, hB, hsl, hA, hcap, hmx⟩ := h
    have HP : Hid (ScanAt w p base _) := Lib.hid ⟨A, c, e, hB, hsl, hA, hcap, hmx⟩
    have c0 := hB.cell 0
    have c1 := hB.cell 1
    have c2 := hB.lt
    have c3 := hB.frozens
    simp only [List.getElem?_cons_zero, List.getElem?_cons_succ] at c0 c1
    have HB := Lib.hid hB
    have HSL := Lib.hid hsl
    have HA := Lib.hid hA
    have HCP := Lib.hid hcap
    have HMX := Lib.hid hmx
    clear hB hsl hA hcap hmx
    obtain ⟨g, o, hAg⟩ := some_of' HSL.out (show 0 < rest.length by omega)
    subst hAg
    have kg := sl_lt HSL.out (show 0 < rest.length by omega)
    obtain ⟨r8, hr8⟩ : ∃ r8, r8 = rest.drop 8 := ⟨_, rfl⟩
    have hr8l : rest.length - 8 = r8.length := by rw [hr8, List.length_drop]
    have hs8 : ∀ w, (Instr.slice 50 (.slice (some ⟨g, o, none⟩) rest.length c) (some (.int .i64 8)) none none).run Try.prog w = .ok (.slice (cutA (some ⟨g, o, none⟩) 8 c) r8.length (c - 8)) w := fun w => by
      have := slice_l (A := some ⟨g, o, none⟩) (n := rest.length) (c := c) .i64 8 h8 w
      rw [hr8l] at this
      exact this
    have hsl8 := sl_cut HSL.out (lo := 8) (hi := rest.length) (c := c) h8 (Nat.le_refl _) HCP.out
    simp only at hsl8
    rw [hr8l, ← hr8, List.take_of_length_le (Nat.le_refl _)] at hsl8
    have HS8 := Lib.hid hsl8
    obtain ⟨A8, hA8⟩ : ∃ A8, A8 = cutA (some ⟨g, o, none⟩) 8 c := ⟨_, rfl⟩
    have HA8 : Hid (∀ a, A8 = some a → a.block < base) := Lib.hid (by rw [hA8]; exact cutA_under HA.out)
    rw [← hA8] at hs8 HS8
    have HR8 := Lib.hid hr8
    have HRL := Lib.hid hr8l
    have HL8 := Lib.hid h8
    clear hsl8 hA8 hr8 hr8l hl8 h8
    go_enter Try.func71, Try.ntmps71
    go_wp2
    go_loopg [3, 4] 8 (fun g v3 v4 wr => GetRel w (rest.take 8) g v3 v4 wr)
    case atStart => exact ⟨0, _, by rw [List.length_take]; have := HL8.out; omega, rfl, by go_num, rfl, by rw [List.drop_of_length_le (by rw [List.length_take]; omega)]; rfl, rfl⟩
    case round =>
      obtain ⟨x, y, hg, rfl, hy, rfl, hx, rfl⟩ := hrel
      have HX := Lib.hid hx
      clear hx
      rcases Nat.eq_zero_or_pos gk with h0 | h0
      · subst h0
        have hy0 : y < 0 := by omega
        have hxr := HX.out
        rw [List.drop_zero] at hxr
        obtain ⟨nv, hnv⟩ : ∃ nv, nv = IntKind.i64.wrap (x : Int) := ⟨_, rfl⟩
        have hnv' := hnv.symm
        have HNV := Lib.hid hnv
        have HXR := Lib.hid hxr
        clear hy hnv hxr
        go_wp2
        go_ret
        refine ⟨?_, ?_, (FrS.refl p wr).put 0 _⟩
        · rw [← HXR.out, ← HNV.out]; rfl
        · rw [← HR8.out]
          exact ⟨A8, c - 8, e, HB.out.set_ 0 _, HS8.out.under HA8.out ((FrS.refl p wr).put 0 _) (fun k hk => hk ▸ hp), HA8.out, by show r8.length ≤ c - 8; have := HCP.out; have := HRL.out; omega, by show r8.length ≤ maxLen; have := HMX.out; have := HRL.out; omega⟩
      · obtain ⟨k, rfl⟩ : ∃ k, gk = k + 1 := ⟨gk - 1, by omega⟩
        obtain ⟨hyk⟩ : y = (k : Int) ∧ True := ⟨by omega, trivial⟩
        clear hy
        subst hyk
        have hk8 : k < 8 := by rw [List.length_take] at hg; omega
        have hk0 : (0 : Int) ≤ (k : Int) := by omega
        have hk1 : (k : Int) < (rest.length : Int) := by have := HL8.out; omega
        obtain ⟨b, hb⟩ : ∃ b, rest[k]? = some b := ⟨_, List.getElem?_eq_getElem (by omega)⟩
        have hb' : (rest.take 8)[k]? = some b := by rw [List.getElem?_take, if_pos hk8]; exact hb
        obtain ⟨g', o', hgo, hg1, hc, _⟩ := HSL.out.cells (by omega)
        have hgo := Option.some.inj hgo
        injection hgo with e1 e2
        subst e1 e2
        have n0 := hc k _ (enc8_get hb)
        clear hc
        have hx0 : (0 : Int) ≤ (x : Int) := by omega
        have hx1 : (x : Int) < 72057594037927936 := by
          have h1 := leN_lt ((rest.take 8).drop (k + 1))
          have h2 : ((rest.take 8).drop (k + 1)).length ≤ 7 := by rw [List.length_drop, List.length_take]; omega
          have h3 := Nat.pow_le_pow_right (show 0 < 256 by omega) h2
          rw [← HX.out] at h1
          omega
        have hb0 : (0 : Int) ≤ (b.toNat : Int) := by omega
        have hb1 : (b.toNat : Int) < 256 := by have := b.toNat_lt; omega
        have HD := Lib.hid (leN_drop hb')
        obtain ⟨bn, hbn⟩ : ∃ bn, bn = b.toNat := ⟨_, rfl⟩
        rw [← hbn] at n0 hb0 hb1 HD
        clear hbn hb hb' hg
        go_wp2
        go_roundg k
        case measure => omega
        case rel => exact ⟨bn + 256 * x, (k : Int) - 1, by rw [List.length_take]; have := HL8.out; omega, by go_num, rfl, by rw [or_byte x bn (by omega) (by omega)], by rw [HD.out, ← HX.out], rfl⟩
set_option maxRecDepth 100000 in
theorem smallT_any (p base : Nat) (s : RS) (w : World) (h : ScanAt w p base s) (hp : base ≤ p) :
    Calls Try.prog 70 #[.pointer (some ⟨p, 0, none⟩)] w fun e w' => e = .returned (.int .i64 (numS s 0).2) ∧ ScanAt w' p base (numS s 0).1 ∧ FrS p w w' := by
  have HN := Lib.hid (numT_any p base s w h hp)
  clear h
  generalize numS s 0 = x at HN ⊢
  go_enter Try.func70, Try.ntmps70
  go_wp2_with (go_at_call 71; refine HN.out.mono ?_; rintro e w1 ⟨rfl, hs1, hf1⟩)
  go_ret
  exact ⟨rfl, hs1, hf1⟩
def manyV (s : RS) (most : Int) : Int := if (manyS s 0 most).1.1 then 0 else (manyS s 0 most).2
set_option maxRecDepth 100000 in
set_option maxHeartbeats 1000000 in
theorem manyT_any (p base : Nat) (s : RS) (most : Int) (w : World) (h : ScanAt w p base s) (hp : base ≤ p) (hm : 0 ≤ most) :
    Calls Try.prog 73 #[.pointer (some ⟨p, 0, none⟩), .int .i64 most] w fun e w' => e = .returned (.int .i64 (manyV s most)) ∧ ScanAt w' p base (manyS s 0 most).1 ∧ FrS p w w' := by
  have HN := Lib.hid (numT_any p base s w h hp)
  have hz : (numS s 0).1.1 = true → (numS s 0).2 = 0 := fun hz => by
    unfold numS at hz ⊢
    split at hz <;> simp_all
  unfold manyV manyS
  clear h
  generalize numS s 0 = x at HN hz ⊢
  obtain ⟨⟨bd, rest⟩, n⟩ := x
  simp only at hz ⊢
  by_cases h0 : n < 0
  · simp only [h0, decide_true, Bool.or_true, Bool.true_or, if_true]
    clear hz
    go_enter Try.func73, Try.ntmps73
    go_wp2_with (go_at_call 71; refine HN.out.mono ?_; rintro e w1 ⟨rfl, hs1, hf1⟩; obtain ⟨A, c, e, hB, hq⟩ := hs1; have HP := Lib.hid (show ScanAt w1 p base (bd, rest) from ⟨A, c, e, hB, hq⟩); have HF := Lib.hid hf1; have c1 := hB.cell 1; have c2 := hB.lt; have c3 := hB.frozens; simp only [List.getElem?_cons_zero, List.getElem?_cons_succ] at c1; clear hB hq hf1)
    go_ret
    exact ⟨rfl, HP.out.bad hp, FrS.put HF.out 1 _⟩
  · by_cases h1 : most < n
    · simp only [h0, h1, decide_true, decide_false, Bool.or_true, if_true]
      clear hz
      go_enter Try.func73, Try.ntmps73
      go_wp2_with (go_at_call 71; refine HN.out.mono ?_; rintro e w1 ⟨rfl, hs1, hf1⟩; obtain ⟨A, c, e, hB, hq⟩ := hs1; have HP := Lib.hid (show ScanAt w1 p base (bd, rest) from ⟨A, c, e, hB, hq⟩); have HF := Lib.hid hf1; have c1 := hB.cell 1; have c2 := hB.lt; have c3 := hB.frozens; simp only [List.getElem?_cons_zero, List.getElem?_cons_succ] at c1; clear hB hq hf1)
      go_ret
      exact ⟨rfl, HP.out.bad hp, FrS.put HF.out 1 _⟩
    · simp only [h0, h1, decide_false, Bool.or_false]
      have e1 : (if bd = true then 0 else n) = n := by
        split
        · rename_i hb; exact (hz hb).symm
        · rfl
      rw [e1]
      clear hz e1
      go_enter Try.func73, Try.ntmps73
      go_wp2_with (go_at_call 71; refine HN.out.mono ?_; rintro e w1 ⟨rfl, hs1, hf1⟩)
      go_ret
      exact ⟨rfl, hs1, hf1⟩

set_option maxRecDepth 100000 in
set_option maxHeartbeats 1000000 in
theorem textT_any (p base : Nat) (s : RS) (most : Int) (w : World) (h : ScanAt w p base s) (hp : base ≤ p) (hm : 0 ≤ most) :
    Calls Try.prog 72 #[.pointer (some ⟨p, 0, none⟩), .int .i64 most] w fun e w' => e = .returned (.string (textS s ⟨#[]⟩ most).2) ∧ ScanAt w' p base (textS s ⟨#[]⟩ most).1 ∧ FrS p w w' := by
  have HN := Lib.hid (manyT_any p base s most w h hp hm)
  have hpos : (manyS s 0 most).1.1 = false → 0 ≤ (manyS s 0 most).2 := fun hz => by
    unfold manyS at hz ⊢
    simp only [Bool.or_eq_false_iff, decide_eq_false_iff_not] at hz
    omega
  unfold textS
  unfold manyV at HN
  have e0 : ((ByteArray.size ⟨#[]⟩ : Nat) : Int) = 0 := rfl
  rw [e0]
  clear h e0
  generalize manyS s 0 most = x at HN hpos ⊢
  obtain ⟨⟨bd, rest⟩, n⟩ := x
  simp only at HN hpos ⊢
  have hl0 : (0 : Int) ≤ (rest.length : Int) := by omega
  cases bd
  · have hn := hpos rfl
    clear hpos
    simp only [Bool.false_eq_true, if_false] at HN
    obtain ⟨k, rfl⟩ : ∃ k : Nat, n = (k : Int) := ⟨n.toNat, by omega⟩
    by_cases hlt : (rest.length : Int) < (k : Int)
    · simp only [hlt, decide_true, Bool.or_true, if_true]
      go_enter Try.func72, Try.ntmps72
      go_wp2_with (go_at_call 73; refine HN.out.mono ?_; rintro e w1 ⟨rfl, hs1, hf1⟩; have HP := Lib.hid hs1; obtain ⟨A, c, e, hB, hsl, hA, hcap, hmx⟩ := hs1; have HF := Lib.hid hf1; have c0 := hB.cell 0; have c1 := hB.cell 1; have c2 := hB.lt; have c3 := hB.frozens; simp only [List.getElem?_cons_zero, List.getElem?_cons_succ] at c0 c1; have HB := Lib.hid hB; have HSL : Hid (Sl w1 e 1 A rest.length (enc8 rest)) := Lib.hid hsl; have HA := Lib.hid hA; have HCP : Hid (rest.length ≤ c) := Lib.hid hcap; have HMX : Hid (rest.length ≤ maxLen) := Lib.hid hmx; clear hB hsl hA hcap hmx hf1)
      go_ret
      exact ⟨rfl, HP.out.bad hp, FrS.put HF.out 1 _⟩
    · simp only [hlt, decide_false, Bool.or_false, Bool.false_eq_true, if_false, Int.toNat_natCast]
      have hkl : k ≤ rest.length := by omega
      obtain ⟨r2, hr2⟩ : ∃ r2, r2 = rest.drop k := ⟨_, rfl⟩
      have hr2l : rest.length - k = r2.length := by rw [hr2, List.length_drop]
      have HKT := Lib.hid (show k = (rest.take k).length by rw [List.length_take]; omega)
      have HR2 := Lib.hid hr2
      have HRL := Lib.hid hr2l
      have HKL := Lib.hid hkl
      clear hr2 hr2l hkl
      go_enter Try.func72, Try.ntmps72
      go_wp2_with (go_at_call 73; go_loud (refine HN.out.mono ?_; rintro e w1 ⟨rfl, hs1, hf1⟩; have HP := Lib.hid hs1; obtain ⟨A, c, e, hB, hsl, hA, hcap, hmx⟩ := hs1; have HF := Lib.hid hf1; have c0 := hB.cell 0; have c1 := hB.cell 1; have c2 := hB.lt; have c3 := hB.frozens; simp only [List.getElem?_cons_zero, List.getElem?_cons_succ] at c0 c1; have HB := Lib.hid hB; have HSL : Hid (Sl w1 e 1 A rest.length (enc8 rest)) := Lib.hid hsl; have HA := Lib.hid hA; have HCP : Hid (rest.length ≤ c) := Lib.hid hcap; have HMX : Hid (rest.length ≤ maxLen) := Lib.hid hmx; clear hB hsl hA hcap hmx hf1; have hs1 := fun (w : World) => slice_h (A := A) (n := rest.length) (c := c) .i64 k (by have := HCP.out; have := HKL.out; omega) w; simp only [Nat.sub_zero] at hs1; have hs2 := fun (w : World) => slice_l (A := A) (n := rest.length) (c := c) .i64 k HKL.out w; rw [HRL.out] at hs2; have S1 := sl_cut HSL.out (lo := 0) (hi := k) (c := c) (by omega) HKL.out (by have := HCP.out; have := HKL.out; omega); rw [List.drop_zero, Nat.sub_zero] at S1; have q1 := run_str' (l := rest.take k) (c := c) HKT.out S1; have _k1 := True.intro; have S2 := sl_cut HSL.out (lo := k) (hi := rest.length) (c := c) HKL.out (Nat.le_refl _) HCP.out; (try simp only at S2); rw [HRL.out, ← HR2.out, List.take_of_length_le (Nat.le_refl _)] at S2; have HS2 := Lib.hid S2; clear S1 S2))
      go_ret
      refine ⟨rfl, ?_, FrS.put HF.out 0 _⟩
      rw [← HR2.out]
      exact ⟨cutA A k c, c - k, e, HB.out.set_ 0 _, HS2.out.under (cutA_under HA.out) ((FrS.refl p w1).put 0 _) (fun k hk => hk ▸ hp), cutA_under HA.out, by show r2.length ≤ c - k; have := HCP.out; have := HRL.out; omega, by show r2.length ≤ maxLen; have := HMX.out; have := HRL.out; omega⟩
  · simp only [Bool.true_or, if_true]
    simp only [if_true] at HN
    clear hpos
    go_enter Try.func72, Try.ntmps72
    go_wp2_with (go_at_call 73; refine HN.out.mono ?_; rintro e w1 ⟨rfl, hs1, hf1⟩; have HP := Lib.hid hs1; obtain ⟨A, c, e, hB, hsl, hA, hcap, hmx⟩ := hs1; have HF := Lib.hid hf1; have c0 := hB.cell 0; have c1 := hB.cell 1; have c2 := hB.lt; have c3 := hB.frozens; simp only [List.getElem?_cons_zero, List.getElem?_cons_succ] at c0 c1; have HB := Lib.hid hB; have HSL : Hid (Sl w1 e 1 A rest.length (enc8 rest)) := Lib.hid hsl; have HA := Lib.hid hA; have HCP : Hid (rest.length ≤ c) := Lib.hid hcap; have HMX : Hid (rest.length ≤ maxLen) := Lib.hid hmx; clear hB hsl hA hcap hmx hf1)
    go_ret
    exact ⟨rfl, HP.out.bad hp, FrS.put HF.out 1 _⟩
set_option maxRecDepth 100000 in
set_option maxHeartbeats 1000000 in
theorem truthT_any (p base : Nat) (s : RS) (w : World) (h : ScanAt w p base s) (hp : base ≤ p) :
    Calls Try.prog 74 #[.pointer (some ⟨p, 0, none⟩)] w fun e w' => e = .returned (.bool (truthS s false).2) ∧ ScanAt w' p base (truthS s false).1 ∧ FrS p w w' := by
  obtain ⟨bd, rest⟩ := s
  cases rest with
  | nil =>
    have e0 : truthS (bd, []) false = ((true, []), false) := rfl
    rw [e0]
    clear e0
    obtain ⟨A, c, e, hB, hsl, hA, hcap, hmx⟩ := h
    have HP : Hid (ScanAt w p base _) := Lib.hid ⟨A, c, e, hB, hsl, hA, hcap, hmx⟩
    have c0 := hB.cell 0
    have c1 := hB.cell 1
    have c2 := hB.lt
    have c3 := hB.frozens
    simp only [List.getElem?_cons_zero, List.getElem?_cons_succ] at c0 c1
    have HB := Lib.hid hB
    have HSL := Lib.hid hsl
    have HA := Lib.hid hA
    have HCP := Lib.hid hcap
    have HMX := Lib.hid hmx
    clear hB hsl hA hcap hmx
    cases bd
    all_goals
      go_enter Try.func74, Try.ntmps74
      go_wp2
      go_ret
      exact ⟨rfl, HP.out.bad hp, (FrS.refl p w).put 1 _⟩
  | cons x r =>
    by_cases hbad : (bd || decide (1 < x.toNat)) = true
    · have e0 : truthS (bd, x :: r) false = ((true, x :: r), false) := by simp only [truthS, hbad, if_true]
      rw [e0]
      clear e0
      obtain ⟨A, c, e, hB, hsl, hA, hcap, hmx⟩ := h
      have HP : Hid (ScanAt w p base _) := Lib.hid ⟨A, c, e, hB, hsl, hA, hcap, hmx⟩
      have c0 := hB.cell 0
      have c1 := hB.cell 1
      have c2 := hB.lt
      have c3 := hB.frozens
      simp only [List.getElem?_cons_zero, List.getElem?_cons_succ] at c0 c1
      have HB := Lib.hid hB
      have HSL := Lib.hid hsl
      have HA := Lib.hid hA
      have HCP := Lib.hid hcap
      have HMX := Lib.hid hmx
      clear hB hsl hA hcap hmx
      obtain ⟨rl, hrl⟩ : ∃ rl, rl = (x :: r) := ⟨_, rfl⟩
      rw [← hrl] at c0 HSL HP HCP HMX
      rw [← hrl]
      have hz : 0 < rl.length := by rw [hrl]; simp
      have hz1 : (0 : Int) < (rl.length : Int) := by omega
      have hz2 : ((rl.length : Int) == 0) = false := by rw [beq_eq_false_iff_ne]; omega
      have hz3 : rl ≠ [] := by rw [hrl]; simp
      obtain ⟨g, oo, hAg⟩ := some_of' HSL.out hz
      subst hAg
      have k0 := at8_cell HSL.out rfl 0 hz
      rw [Nat.add_zero, at8_def, show rl.getD 0 0 = x by rw [hrl]; rfl] at k0
      have kg := sl_lt HSL.out hz
      clear hrl
      cases bd
      · have hx : 1 < x.toNat := by simpa using hbad
        have hxi : (1 : Int) < (x.toNat : Int) := by omega
        clear hbad hx
        go_enter Try.func74, Try.ntmps74
        go_wp2
        go_ret
        exact ⟨rfl, HP.out.bad hp, (FrS.refl p w).put 1 _⟩
      · clear hbad
        go_enter Try.func74, Try.ntmps74
        go_wp2
        go_ret
        exact ⟨rfl, HP.out.bad hp, (FrS.refl p w).put 1 _⟩
    · have hbd : bd = false ∧ x.toNat ≤ 1 := by
        simp only [Bool.or_eq_true, decide_eq_true_eq, not_or, Bool.not_eq_true] at hbad
        exact ⟨hbad.1, by omega⟩
      obtain ⟨rfl, hx⟩ := hbd
      have e1 : truthS (false, x :: r) false = ((false, r), x == 1) := by simp only [truthS, hbad]; rfl
      rw [e1]
      clear e1 hbad
      obtain ⟨A, c, e, hB, hsl, hA, hcap, hmx⟩ := h
      have HP : Hid (ScanAt w p base _) := Lib.hid ⟨A, c, e, hB, hsl, hA, hcap, hmx⟩
      have c0 := hB.cell 0
      have c1 := hB.cell 1
      have c2 := hB.lt
      have c3 := hB.frozens
      simp only [List.getElem?_cons_zero, List.getElem?_cons_succ] at c0 c1
      have HB := Lib.hid hB
      have HSL := Lib.hid hsl
      have HA := Lib.hid hA
      have HCP := Lib.hid hcap
      have HMX := Lib.hid hmx
      clear hB hsl hA hcap hmx
      have hS2 := sl_cut HSL.out (lo := 1) (hi := (x :: r).length) (c := c) (by simp) (Nat.le_refl _) HCP.out
      have HS2 : Hid (Sl w e 1 (cutA A 1 c) r.length (enc8 r)) := Lib.hid (by simpa using hS2)
      have hs2 : ∀ w, (Instr.slice 50 (.slice A (x :: r).length c) (some (.int .i64 1)) none none).run Try.prog w = .ok (.slice (cutA A 1 c) r.length (c - 1)) w := fun w => slice_l (A := A) (n := (x :: r).length) (c := c) .i64 1 (by simp) w
      obtain ⟨rl, hrl⟩ : ∃ rl, rl = (x :: r) := ⟨_, rfl⟩
      have HRL := Lib.hid (show rl.length = r.length + 1 by rw [hrl]; rfl)
      rw [← hrl] at c0 HSL HP HCP HMX HB hs2
      have hz : 0 < rl.length := by rw [hrl]; simp
      have hz1 : (0 : Int) < (rl.length : Int) := by omega
      have hz2 : ((rl.length : Int) == 0) = false := by rw [beq_eq_false_iff_ne]; omega
      have hz3 : rl ≠ [] := by rw [hrl]; simp
      obtain ⟨g, oo, hAg⟩ := some_of' HSL.out hz
      subst hAg
      have k0 := at8_cell HSL.out rfl 0 hz
      rw [Nat.add_zero, at8_def, show rl.getD 0 0 = x by rw [hrl]; rfl] at k0
      have kg := sl_lt HSL.out hz
      have hxi : ¬ (1 : Int) < (x.toNat : Int) := by omega
      have hxe : ((x.toNat : Int) == 1) = (x == 1) := by
        rw [Bool.eq_iff_iff]
        simp only [beq_iff_eq]
        constructor
        · intro h; exact UInt8.toNat_inj.1 (by have : (1 : UInt8).toNat = 1 := rfl; omega)
        · rintro rfl; rfl
      clear hrl hS2 hx
      go_enter Try.func74, Try.ntmps74
      go_wp2
      go_ret
      exact ⟨rfl, ⟨_, c - 1, e, HB.out.set_ 0 _, HS2.out.under (cutA_under HA.out) ((FrS.refl p w).put 0 _) (fun k hk => hk ▸ hp), cutA_under HA.out, by show r.length ≤ c - 1; have := HCP.out; have := HRL.out; omega, by show r.length ≤ maxLen; have := HMX.out; have := HRL.out; omega⟩, (FrS.refl p w).put 0 _⟩
end Go.Proofs.Ytegogggemmcgdaa

/- the reference's GetEvent. -/
namespace Go.Proofs.Ytegogggemmcgdaa
open Go Go.RowKit Go.Proofs

def finEv (E : RS × EvS) : EvS × Int := if fin E.1 then (E.2, 0) else (EvS.zero, 11)
theorem finEv_yes {E : RS × EvS} (h : fin E.1 = true) : finEv E = (E.2, 0) := if_pos h
theorem finEv_no {E : RS × EvS} (h : fin E.1 = false) : finEv E = (EvS.zero, 11) := if_neg (by rw [h]; simp)
attribute [irreducible] finEv
/-- what the reference reads out of bytes -/
def getEvT : Bs → EvS × Int
  | [] => (EvS.zero, 10)
  | b0 :: r => finEv (evS (decide (b0 ≠ 225), r))
theorem fin_nil : fin (false, []) = true := by rw [← fin_def]; rfl
theorem fin_cons (b : UInt8) (l : Bs) : fin (false, b :: l) = false := by rw [← fin_def]; rfl
theorem fin_true (l : Bs) : fin (true, l) = false := by rw [← fin_def]; rfl
theorem rgev_res {tmps : Array Value} {w : World} {g : Nat} {x : EvS} {A : Option Addr} {c : Nat} {e : Int} (h : Blk w g 49 (x.cells A c)) (h4 : tmps.getD 2 undef = .pointer (some ⟨g, 0, none⟩)) (h5 : tmps.getD 3 undef = .int .i64 e) :
    (results Try.f37 tmps).run Try.prog w = .ok (.tuple #[x.agg A c, .int .i64 e]) w := by
  obtain ⟨r0, r1, r2, r3, r4⟩ := h.cells5
  simp only [Array.getD_eq_getD_getElem?] at h4 h5
  simp [results, Try.results37, go_sem, h4, h5, r0, r1, r2, r3, r4]
abbrev zeroEv : List Value := [.int .i64 0, .int .i64 0, .int .i64 0, .string ⟨#[]⟩, .slice none 0 0]
abbrev encI : Int → List Value := fun x => [Value.int .i64 x]
structure GL (w : World) (p rb xb : Nat) (a b c : Int) (d : ByteArray) (v : Value) (s : RS) (xs : List Int) (wr : World) : Prop where
  sc : ScanAt wr p w.heap.size s
  ev : Blk wr xb 49 [.int .i64 a, .int .i64 b, .int .i64 c, .string d, v]
  res : Blk wr rb 49 zeroEv
  own : wr.ownsRow w.heap.size 3 1 v xs.length (xs.flatMap encI)
  fr : Fr No w wr
def GELRel (w : World) (p rb xb : Nat) (a b c : Int) (d : ByteArray) (N : Nat) (F : RS × List Int) (g : Nat) (v7 : Value) (wr : World) : Prop :=
  ∃ (i : Nat) (v : Value) (s : RS) (xs : List Int), i + g = N ∧ v7 = .int .i64 i ∧ GL w p rb xb a b c d v s xs wr ∧ xs.length = i ∧ foldR (fun s => numS s 0) (N - i) s xs = F
theorem manyV_pos (s : RS) (most : Int) (hm : 0 ≤ most) : 0 ≤ manyV s most ∧ manyV s most ≤ most := by
  unfold manyV
  split
  · omega
  · rename_i h
    simp only [Bool.not_eq_true] at h
    unfold manyS at h ⊢
    simp only [Bool.or_eq_false_iff, decide_eq_false_iff_not] at h
    simp only
    omega
theorem listS_manyV {α : Type} (rs : RS → RS × α) (s : RS) (most : Int) : listS rs s most = foldR rs (manyV s most).toNat (manyS s 0 most).1 [] := by
  unfold listS manyV
  cases h : (manyS s 0 most).1.1
  · simp
  · have e : (manyS s 0 most).1 = (true, (manyS s 0 most).1.2) := by rw [← h]
    rw [e, foldR_bad, foldR_bad]
set_option maxRecDepth 100000 in
set_option maxHeartbeats 4000000 in
theorem refGetEvent_any (A : Option Addr) (c : Nat) (e : TypeId) (l : Bs) (w : World) (h : BsIn w A c e l) :
    Calls Try.prog 37 #[.slice A l.length c] w (GetEvW (getEvT l) w) := by
  have HB := Lib.hid (Blk.new w 49 zeroEv)
  have HF := Lib.hid ((Fr.refl No w).alloc (Obj.cells (zeroEv).toArray 49))
  obtain ⟨r0, r1, r2, r3, r4⟩ := HB.out.cells5
  have hfz := HB.out.frozens
  have lG := HB.out.lt
  cases hl : l with
  | nil =>
    clear h hl
    change Calls Try.prog 37 #[.slice A 0 c] w (GetEvW (EvS.zero, 10) w)
    go_enter Try.func37, Try.ntmps37
    go_wp2
    exact bodyPost_ret (rgev_res (x := EvS.zero) (A := none) (c := 0) (e := 10) HB.out rfl rfl) rfl ⟨none, 0, rfl, World.ownsRow_nil _ _ _ _, HF.out⟩
  | cons b0 r =>
    rw [← hl]
    have e0 : getEvT l = finEv (evS (decide (b0 ≠ 225), r)) := by rw [hl]; rfl
    rw [e0]
    clear e0
    have hpos : 0 < l.length := by rw [hl]; simp
    obtain ⟨g, o, hAg⟩ := some_of' h.sl hpos
    subst hAg
    have k0 := at8_cell h.sl rfl 0 hpos
    rw [Nat.add_zero, at8_def, show l.getD 0 0 = b0 by rw [hl]; rfl] at k0
    have kg := sl_lt h.sl hpos
    have HA := Lib.hid h.below
    have hs2 : ∀ w, (Instr.slice 50 (.slice (some ⟨g, o, none⟩) l.length c) (some (.int .i64 1)) none none).run Try.prog w = .ok (.slice (cutA (some ⟨g, o, none⟩) 1 c) r.length (c - 1)) w := fun w => by
      have := slice_l (A := some ⟨g, o, none⟩) (n := l.length) (c := c) .i64 1 (by omega) w
      rw [show l.length - 1 = r.length by rw [hl]; simp] at this
      exact this
    have hS2 := sl_cut h.sl (lo := 1) (hi := l.length) (c := c) (by omega) (Nat.le_refl _) h.cap
    have HS2 : Hid (Sl w e 1 (cutA (some ⟨g, o, none⟩) 1 c) r.length (enc8 r)) := Lib.hid (by subst hl; simpa using hS2)
    obtain ⟨A5, hA5⟩ : ∃ A5, A5 = cutA (some ⟨g, o, none⟩) 1 c := ⟨_, rfl⟩
    have HA5 : Hid (∀ a, A5 = some a → a.block < w.heap.size) := Lib.hid (by rw [hA5]; exact cutA_under h.below)
    rw [← hA5] at hs2 HS2
    have HRL := Lib.hid (show l.length = r.length + 1 by rw [hl]; rfl)
    have HC := Lib.hid h.cap
    have HM := Lib.hid h.most
    have hl0 : (0 : Int) < (l.length : Int) := by omega
    have hlz : ((l.length : Int) == 0) = false := by rw [beq_eq_false_iff_ne]; omega
    have hl6 : l ≠ [] := by rw [hl]; simp
    have hk0 : ((b0.toNat : Int) != 225) = decide (b0 ≠ 225) := by
      by_cases h : b0 = 225
      · subst h; simp
      · have h2 : ((b0.toNat : Int) == 225) = false := by
          rw [beq_eq_false_iff_ne]
          intro h3
          exact h (UInt8.toNat_inj.1 (by have : (225 : UInt8).toNat = 225 := rfl; omega))
        rw [bne, h2]
        simp [h]
    obtain ⟨bd, hbd⟩ : ∃ bd, bd = decide (b0 ≠ 225) := ⟨_, rfl⟩
    rw [← hbd]
    rw [← hbd] at hk0
    obtain ⟨E, hE⟩ : ∃ E, E = evS (bd, r) := ⟨_, rfl⟩
    rw [← hE]
    have HEE := Lib.hid hE
    clear h hl hS2 hA5 hbd hE
    obtain ⟨iT, hiT, hzT, hsT, hbT⟩ := info_parts (show (Try.prog.info? 3).map (fun i => (i.zero, i.size, i.bytes)) = some (some (.int .i64 0), 1, 8) by kernel_rfl)
    go_enter Try.func37, Try.ntmps37
    go_wp2
    refine wp_region_o [(0, 0), (1, 0), (2, 0), (3, 0), (4, 1), (5, 0), (6, 0), (7, 2), (8, 0)] (by kernel_rfl) (by kernel_rfl) ?_
    repeat (first
      | (apply wpO_pure rfl rfl; (focus (intro w'; go_simp; (try rfl); done)); try simp only [Act.put, List.setIfInBounds_toArray, List.set_cons_zero, List.set_cons_succ])
      | (apply wpO_read rfl rfl; (focus (intro w' hf' hs'; (try simp only [World.size_drew, World.cell?_drew, World.size_alloc, World.size_setCell] at hs'); go_simp; (try rfl); done)); try simp only [Act.put, List.setIfInBounds_toArray, List.set_cons_zero, List.set_cons_succ])
      | (apply wpO_skip (by decide) rfl rfl; try simp only [Act.put, List.setIfInBounds_toArray, List.set_cons_zero, List.set_cons_succ]))
    refine wpO_loudE rfl fun K hK => ?_
    go_simp
    refine hK _ _ ⟨((Fr.refl No _).alloc _).drew.drewL, ?_⟩
    clear hK K
    repeat (first
      | (apply wpO_pure rfl rfl; (focus (intro w'; go_simp; (try rfl); done)); try simp only [Act.put, List.setIfInBounds_toArray, List.set_cons_zero, List.set_cons_succ])
      | (apply wpO_read rfl rfl; (focus (intro w' hf' hs'; (try simp only [World.size_drew, World.cell?_drew, World.size_alloc, World.size_setCell] at hs'); go_simp; (try rfl); done)); try simp only [Act.put, List.setIfInBounds_toArray, List.set_cons_zero, List.set_cons_succ])
      | (apply wpO_skip (by decide) rfl rfl; try simp only [Act.put, List.setIfInBounds_toArray, List.set_cons_zero, List.set_cons_succ]))
    refine wpO_nil ?_
    have F1 := (((Fr.refl No w).alloc (Obj.cells (zeroEv).toArray 49)).alloc (Obj.cells #[.slice A5 r.length (c - 1), .bool bd] 136)).drew
    have HF1 := Lib.hid F1
    have hn1 := (Blk.new (w.alloc (Obj.cells (zeroEv).toArray 49)) 136 [.slice A5 r.length (c - 1), .bool bd]).drew
    have en : (w.alloc (Obj.cells (zeroEv).toArray 49)).heap.size = w.heap.size + 1 := by simp
    rw [en] at hn1
    have HP1 : Hid (ScanAt (((w.alloc (Obj.cells (zeroEv).toArray 49)).alloc (Obj.cells #[.slice A5 r.length (c - 1), .bool bd] 136)).drew) (w.heap.size + 1) w.heap.size (bd, r)) := Lib.hid
      ⟨A5, c - 1, e, hn1, HS2.out.fr0 F1, HA5.out, by show r.length ≤ c - 1; have := HC.out; have := HRL.out; omega, by show r.length ≤ maxLen; have := HM.out; have := HRL.out; omega⟩
    have HR1 := Lib.hid (HB.out.alloc (Obj.cells #[.slice A5 r.length (c - 1), .bool bd] 136)).drew
    clear F1 hn1 en hs2 HS2 HRL HC HM hl0 hlz hl6 hk0 k0 kg r0 r1 r2 r3 r4 hfz lG HB HF HA HA5 hpos
    unfold evS at HEE
    simp only at HEE
    obtain ⟨a, h_a⟩ : ∃ x, x = numS (bd, r) 0 := ⟨_, rfl⟩
    rw [← h_a] at HEE
    obtain ⟨b, h_b⟩ : ∃ x, x = numS a.1 0 := ⟨_, rfl⟩
    rw [← h_b] at HEE
    obtain ⟨cc, h_c⟩ : ∃ x, x = numS b.1 0 := ⟨_, rfl⟩
    rw [← h_c] at HEE
    obtain ⟨d, h_d⟩ : ∃ x, x = textS cc.1 ⟨#[]⟩ 255 := ⟨_, rfl⟩
    rw [← h_d, listS_manyV] at HEE
    obtain ⟨N, hN⟩ : ∃ N, N = (manyV d.1 255).toNat := ⟨_, rfl⟩
    obtain ⟨m, h_m⟩ : ∃ m, m = (manyS d.1 0 255).1 := ⟨_, rfl⟩
    rw [← hN, ← h_m] at HEE
    obtain ⟨F, hF⟩ : ∃ F, F = foldR (fun s => numS s 0) N m [] := ⟨_, rfl⟩
    rw [← hF] at HEE
    obtain ⟨hm0, hm1⟩ := manyV_pos d.1 255 (by omega)
    have hNV := Lib.hid (show manyV d.1 255 = (N : Int) by omega)
    have HN255 := Lib.hid (show N ≤ 255 by omega)
    have H_a := Lib.hid h_a
    have H_b := Lib.hid h_b
    have H_c := Lib.hid h_c
    have H_d := Lib.hid h_d
    have H_m := Lib.hid h_m
    have H_F := Lib.hid hF
    clear h_a h_b h_c h_d h_m hF hN hm0 hm1
    have HPP := Lib.hid (show w.heap.size ≤ w.heap.size + 1 by omega)
    go_wp2_with (first
      | (go_at_call 73; go_loud (refine (manyT_any (w.heap.size + 1) w.heap.size d.1 255 _ (HS5.out.fr0 ((Fr.refl No w5).alloc (Obj.cells #[.int .i64 a.2, .int .i64 b.2, .int .i64 cc.2, .string d.2, .slice none 0 0] 49))) HPP.out (by omega)).mono ?_); rintro e w6 ⟨rfl, hs6, hf6⟩; rw [hNV.out]; rw [← H_m.out] at hs6; have HS6 := Lib.hid hs6; have HF6 := Lib.hid hf6; clear hs6 hf6)
      | (go_at_call 72; go_loud (refine (textT_any (w.heap.size + 1) w.heap.size cc.1 255 _ HS4.out HPP.out (by omega)).mono ?_); rintro e w5 ⟨rfl, hs5, hf5⟩; rw [← H_d.out] at hs5 ⊢; have HS5 := Lib.hid hs5; have HF5 := Lib.hid (HF4.out.trans hf5); clear hs5 hf5)
      | (have _t := HS3; go_at_call 71; go_loud (refine (numT_any (w.heap.size + 1) w.heap.size b.1 _ HS3.out HPP.out).mono ?_); rintro e w4 ⟨rfl, hs4, hf4⟩; rw [← H_c.out] at hs4 ⊢; have HS4 := Lib.hid hs4; have HF4 := Lib.hid (HF3.out.trans hf4); clear hs4 hf4)
      | (go_at_call 71; go_loud (refine (numT_any (w.heap.size + 1) w.heap.size a.1 _ HS2.out HPP.out).mono ?_); rintro e w3 ⟨rfl, hs3, hf3⟩; rw [← H_b.out] at hs3 ⊢; have HS3 := Lib.hid hs3; have HF3 := Lib.hid (HF2.out.trans hf3); clear hs3 hf3)
      | (go_at_call 70; go_loud (refine (smallT_any (w.heap.size + 1) w.heap.size (bd, r) _ HP1.out HPP.out).mono ?_); rintro e w2 ⟨rfl, hs2, hf2⟩; rw [← H_a.out] at hs2 ⊢; have HS2 := Lib.hid hs2; have HF2 := Lib.hid hf2; clear hs2 hf2))
    have F6 := ((HF1.out.step HF5.out (fun i hi => .inr (by omega))).alloc (Obj.cells #[.int .i64 a.2, .int .i64 b.2, .int .i64 cc.2, .string d.2, .slice none 0 0] 49)).step HF6.out (fun i hi => .inr (by omega))
    have HR5 := Lib.hid ((HR1.out.fr HF5.out (by omega)).alloc (Obj.cells #[.int .i64 a.2, .int .i64 b.2, .int .i64 cc.2, .string d.2, .slice none 0 0] 49))
    have hps : w.heap.size + 1 < w5.heap.size := HS5.out.lt
    have HX5 := Lib.hid (Blk.new w5 49 [.int .i64 a.2, .int .i64 b.2, .int .i64 cc.2, .string d.2, .slice none 0 0])
    obtain ⟨xb, hxb⟩ : ∃ xb, xb = w5.heap.size := ⟨_, rfl⟩
    rw [← hxb] at HX5 hps
    have HG6 : Hid (GL w (w.heap.size + 1) w.heap.size xb a.2 b.2 cc.2 d.2 (.slice none 0 0) m [] w6) := Lib.hid
      ⟨HS6.out, HX5.out.fr HF6.out (by omega), HR5.out.fr HF6.out (by omega), World.ownsRow_nil _ _ _ _, F6⟩
    rw [← hxb]
    have HXB := Lib.hid hxb
    have hxp : xb ≠ w.heap.size + 1 := by omega
    have hxp' : ¬ xb = w.heap.size + 1 := hxp
    have HXR := Lib.hid (show w.heap.size ≠ xb by omega)
    have HXG := Lib.hid (show w.heap.size ≤ xb by omega)
    clear F6 HR5 HX5 hxb HS6 HF6 HS5 HF5 HS4 HF4 HS3 HF3 HS2 HF2 HP1 HR1 HF1 hps
    go_loopg [7] N (fun g v7 wr => GELRel w (w.heap.size + 1) w.heap.size xb a.2 b.2 cc.2 d.2 N F g v7 wr)
    case atStart => exact ⟨0, .slice none 0 0, m, [], by omega, rfl, HG6.out, rfl, H_F.out.symm⟩
    case round =>
      clear HG6
      obtain ⟨i, v, ⟨bi, li⟩, xs, hgi, rfl, hg, hxl, hfo⟩ := hrel
      have HG := Lib.hid hg
      have HXL := Lib.hid hxl
      have HFO := Lib.hid hfo
      clear hg hxl hfo
      obtain ⟨A4, c4, rfl, _⟩ := own_shape HG.out.own
      have hi0 : (0 : Int) ≤ (i : Int) := by omega
      have hi9 : (N : Int) ≤ 255 := by have := HN255.out; omega
      have e0 := HG.out.ev.cell 0
      have e1 := HG.out.ev.cell 1
      have e2 := HG.out.ev.cell 2
      have e3 := HG.out.ev.cell 3
      have e4 := HG.out.ev.cell 4
      have e5 := HG.out.ev.lt
      have e6 := HG.out.ev.frozens
      have t0 := HG.out.res.cell 0
      have t1 := HG.out.res.cell 1
      have t2 := HG.out.res.cell 2
      have t3 := HG.out.res.cell 3
      have t4 := HG.out.res.cell 4
      have t5 := HG.out.res.lt
      have t6 := HG.out.res.frozens
      simp only [List.getElem?_cons_zero, List.getElem?_cons_succ] at e0 e1 e2 e3 e4 t0 t1 t2 t3 t4
      obtain ⟨As, cs, es, hBs, _⟩ := HG.out.sc
      have c0 := hBs.cell 0
      have c1 := hBs.cell 1
      have c2 := hBs.lt
      simp only [List.getElem?_cons_zero, List.getElem?_cons_succ] at c0 c1
      clear hBs
      by_cases hlt : i < N
      · have hlt1 : (i : Int) < (N : Int) := by omega
        cases bi
        · have hFx := HFO.out
          rw [show N - i = (N - i - 1) + 1 by omega, foldR_succ] at hFx
          have HFX := Lib.hid hFx
          clear hFx
          obtain ⟨y, hy⟩ : ∃ y, y = numS (false, li) 0 := ⟨_, rfl⟩
          rw [← hy] at HFX
          have HY := Lib.hid hy
          clear hy
          go_wp2
          refine OS.wp_region_o (fun k => k = w.heap.size + 1) [(0, 0), (2, 0), (1, 1), (3, 2), (4, 2), (5, 3), (6, 0), (7, 3)] (by kernel_rfl) (by kernel_rfl) ?_
          repeat (first
            | (apply OS.wpO_pure rfl rfl; (focus (intro w'; go_simp; (try rfl); done)); try simp only [Act.put, List.setIfInBounds_toArray, List.set_cons_zero, List.set_cons_succ])
            | (apply OS.wpO_read rfl rfl; (focus (intro w' hf' hs'; (try simp only [World.size_drew, World.cell?_drew, World.size_alloc, World.size_setCell, not_false_eq_true, forall_const] at hs'); go_simp; (try rfl); done)); try simp only [Act.put, List.setIfInBounds_toArray, List.set_cons_zero, List.set_cons_succ])
            | (apply OS.wpO_skip (by decide) rfl rfl; try simp only [Act.put, List.setIfInBounds_toArray, List.set_cons_zero, List.set_cons_succ]))
          refine OS.wpO_loudE rfl fun K hK => ?_
          go_simp
          refine (smallT_any (w.heap.size + 1) w.heap.size (false, li) _ (HG.out.sc.fr0 (Fr.refl No wr).drew) HPP.out).mono ?_
          rintro e w2 ⟨rfl, hs2, hf2⟩
          refine hK _ _ ⟨hf2, ?_⟩
          clear hK K
          try simp only [Act.put, List.setIfInBounds_toArray, List.set_cons_zero, List.set_cons_succ]
          have HSB := Lib.hid hs2
          have HFB := Lib.hid hf2
          clear hs2 hf2
          repeat (first
            | (apply OS.wpO_pure rfl rfl; (focus (intro w'; go_simp; (try rfl); done)); try simp only [Act.put, List.setIfInBounds_toArray, List.set_cons_zero, List.set_cons_succ])
            | (apply OS.wpO_read rfl rfl; (focus (intro w' hf' hs'; (try simp only [World.size_drew, World.cell?_drew, World.size_alloc, World.size_setCell, not_false_eq_true, forall_const] at hs'); go_simp; (try rfl); done)); try simp only [Act.put, List.setIfInBounds_toArray, List.set_cons_zero, List.set_cons_succ])
            | (apply OS.wpO_skip (by decide) rfl rfl; try simp only [Act.put, List.setIfInBounds_toArray, List.set_cons_zero, List.set_cons_succ]))
          rw [← HY.out] at HSB ⊢
          have GE2 := Lib.hid ((HG.out.ev.drew).fr HFB.out hxp)
          have GR2 := Lib.hid ((HG.out.res.drew).fr HFB.out (by omega))
          have GO2 := Lib.hid (own_fr (own_fr0 HG.out.own (Fr.refl No wr).drew) HFB.out (fun k hk e => by obtain ⟨cs, hb⟩ := HG.out.sc.blk; exact own_far HG.out.own hb (by decide) k hk e))
          have GF2 := Lib.hid (HG.out.fr.drew.step HFB.out (fun i hi => .inr (by omega)))
          clear e0 e1 e2 e3 e4 e5 e6 t0 t1 t2 t3 t4 t5 t6 c0 c1 c2
          refine OS.wpO_loudE rfl fun K hK => ?_
          go_simp
          refine hK _ _ ⟨by (repeat (first | exact Fr.refl _ _ | assumption | refine Fr.drew ?_ | refine Fr.alloc ?_ _ | refine Fr.drewL ?_)), ?_⟩
          clear hK K
          repeat (first
            | (apply OS.wpO_pure rfl rfl; (focus (intro w'; go_simp; (try rfl); done)); try simp only [Act.put, List.setIfInBounds_toArray, List.set_cons_zero, List.set_cons_succ])
            | (apply OS.wpO_read rfl rfl; (focus (intro w' hf' hs'; (try simp only [World.size_drew, World.cell?_drew, World.size_alloc, World.size_setCell, not_false_eq_true, forall_const] at hs'); go_simp; (try rfl); done)); try simp only [Act.put, List.setIfInBounds_toArray, List.set_cons_zero, List.set_cons_succ])
            | (apply OS.wpO_skip (by decide) rfl rfl; try simp only [Act.put, List.setIfInBounds_toArray, List.set_cons_zero, List.set_cons_succ]))
          refine OS.wpO_loud rfl fun K hK => ?_
          refine step_append_owned (by rfl) (.tmp 44) (.tmp 47) 23 (by rfl) w.heap.size 3 iT _ 1 8 Try.underlying23 hiT hzT hsT hbT rfl (by omega) (.slice A4 xs.length c4) xs.length (xs.flatMap encI) (by rfl) (own_fr0 GO2.out ((Fr.refl No w2).alloc (Obj.cells #[.int .i64 y.2] 3))) (some ⟨w2.heap.size, 0, none⟩) 1 1 3 [.int .i64 y.2] (by rfl) (Sl.of_new w2 3 1 1 #[.int .i64 y.2] _ rfl rfl) (List.all_eq_true.1 (by rfl)) (by have := HXL.out; have := HN255.out; simp only [maxLen]; omega) (by have := HXL.out; have := HN255.out; omega) (Nat.le_trans GF2.out.size (by simp)) ?_
          intro v4 w4 ho hgr hat
          refine hK _ _ ?_
          clear hK K
          try simp only [Act.put, List.setIfInBounds_toArray, List.set_cons_zero, List.set_cons_succ]
          obtain ⟨A6, c6, rfl, _⟩ := own_shape ho
          have hO2 := own_fr0 GO2.out ((Fr.refl No w2).alloc (Obj.cells #[.int .i64 y.2] 3))
          have E4 := (GE2.out.alloc (Obj.cells #[.int .i64 y.2] 3)).grown hgr (fun k hk => own_far hO2 (GE2.out.alloc (Obj.cells #[.int .i64 y.2] 3)) (by decide) k hk)
          have R4 := (GR2.out.alloc (Obj.cells #[.int .i64 y.2] 3)).grown hgr (fun k hk => own_far hO2 (GR2.out.alloc (Obj.cells #[.int .i64 y.2] 3)) (by decide) k hk)
          have F4 := Fr.grown (S := No) (GF2.out.alloc (Obj.cells #[.int .i64 y.2] 3)) hgr (fun k hk => .inr (own_size hO2 k hk).1)
          have S4 : ScanAt w4 (w.heap.size + 1) w.heap.size y.1 := (HSB.out.fr0 ((Fr.refl No w2).alloc (Obj.cells #[.int .i64 y.2] 3))).fr (Fr.of_grown hgr) (fun hk => by obtain ⟨cs, hb⟩ := (HSB.out.fr0 ((Fr.refl No w2).alloc (Obj.cells #[.int .i64 y.2] 3))).blk; exact own_far hO2 hb (by decide) _ hk.symm rfl) (fun k hk => (own_size hO2 k hk.symm).1)
          have HO4 : Hid (w4.ownsRow w.heap.size 3 1 (.slice A6 (xs.length + 1) c6) (xs ++ [y.2]).length ((xs ++ [y.2]).flatMap encI)) := Lib.hid (by simpa using ho)
          have HE4 := Lib.hid E4
          have HR4 := Lib.hid R4
          have HF4 := Lib.hid F4
          have HS4 := Lib.hid S4
          have e4 := E4.cell 4
          have e5 := E4.lt
          have e6 := E4.frozens
          simp only [List.getElem?_cons_zero, List.getElem?_cons_succ] at e4
          clear ho hgr hat hO2 E4 R4 F4 S4 GE2 GR2 GO2 GF2 HSB HFB
          repeat (first
            | (apply OS.wpO_pure rfl rfl; (focus (intro w'; go_simp; (try rfl); done)); try simp only [Act.put, List.setIfInBounds_toArray, List.set_cons_zero, List.set_cons_succ])
            | (apply OS.wpO_read rfl rfl; (focus (intro w' hf' hs'; (try simp only [World.size_drew, World.cell?_drew, World.size_alloc, World.size_setCell, not_false_eq_true, forall_const] at hs'); go_simp; (try rfl); done)); try simp only [Act.put, List.setIfInBounds_toArray, List.set_cons_zero, List.set_cons_succ])
            | (apply OS.wpO_skip (by decide) rfl rfl; try simp only [Act.put, List.setIfInBounds_toArray, List.set_cons_zero, List.set_cons_succ]))
          refine OS.wpO_loud rfl fun K hK => ?_
          go_simp
          refine hK _ _ ?_
          clear hK K
          repeat (first
            | (apply OS.wpO_pure rfl rfl; (focus (intro w'; go_simp; (try rfl); done)); try simp only [Act.put, List.setIfInBounds_toArray, List.set_cons_zero, List.set_cons_succ])
            | (apply OS.wpO_read rfl rfl; (focus (intro w' hf' hs'; (try simp only [World.size_drew, World.cell?_drew, World.size_alloc, World.size_setCell, not_false_eq_true, forall_const] at hs'); go_simp; (try rfl); done)); try simp only [Act.put, List.setIfInBounds_toArray, List.set_cons_zero, List.set_cons_succ])
            | (apply OS.wpO_skip (by decide) rfl rfl; try simp only [Act.put, List.setIfInBounds_toArray, List.set_cons_zero, List.set_cons_succ]))
          refine OS.wpO_nil ?_
          have FX : Fr (fun k => k = xb) w4 (w4.setCell ⟨xb, 4, none⟩ (.slice A6 (xs.length + 1) c6)) := (Fr.refl (fun k => k = xb) w4).setCell (p := ⟨xb, 4, none⟩) (.inl rfl) _
          have HG5 : Hid (GL w (w.heap.size + 1) w.heap.size xb a.2 b.2 cc.2 d.2 (.slice A6 (xs.length + 1) c6) y.1 (xs ++ [y.2]) (w4.setCell ⟨xb, 4, none⟩ (.slice A6 (xs.length + 1) c6))) := Lib.hid
            ⟨HS4.out.fr FX (fun e => hxp e.symm) (fun k hk => hk ▸ HXG.out), HE4.out.set_ 4 _, HR4.out.far (p := ⟨xb, 4, none⟩) HXR.out _, own_fr HO4.out FX (fun k hk e => own_far HO4.out HE4.out (by decide) k hk e), HF4.out.setCell (p := ⟨xb, 4, none⟩) (.inr HXG.out) _⟩
          have HXL5 := Lib.hid (show (xs ++ [y.2]).length = i + 1 by rw [List.length_append, HXL.out]; rfl)
          have hFx := HFX.out
          rw [Nat.sub_sub] at hFx
          have HFX5 := Lib.hid hFx
          clear hFx e4 e5 e6 HE4 HR4 HF4 HS4 HO4 FX
          go_wp2
          go_roundg (N - (i + 1))
          case measure => omega
          case rel => exact ⟨i + 1, _, _, _, by omega, by go_num, HG5.out, HXL5.out, HFX5.out⟩
        · have hFx := HFO.out
          rw [foldR_bad] at hFx
          have HV := Lib.hid (finEv_no (show fin E.1 = false by rw [HEE.out, ← hFx]; exact fin_true li))
          clear hFx
          go_wp2
          refine bodyPost_ret (rgev_res (x := EvS.zero) (A := none) (c := 0) (e := 11) (HG.out.res.set5v (.int .i64 0) (.int .i64 0) (.int .i64 0) (.string ⟨#[]⟩) (.slice none 0 0)) rfl rfl) rfl ?_
          rw [HV.out]
          exact ⟨none, 0, rfl, World.ownsRow_nil _ _ _ _, HG.out.fr.set5v (.inr (Nat.le_refl _)) _ _ _ _ _⟩
      · have hlt1 : ¬ (i : Int) < (N : Int) := by omega
        have hFx := HFO.out
        rw [show N - i = 0 by omega, foldR_zero] at hFx
        cases bi
        · cases li with
          | nil =>
            have hE := HEE.out
            rw [← hFx] at hE
            have HV := Lib.hid (finEv_yes (show fin E.1 = true by rw [hE]; exact fin_nil))
            have HE2 := Lib.hid hE
            clear hFx hE
            go_wp2
            have hX := (HG.out.res.set5v (.int .i64 a.2) (.int .i64 b.2) (.int .i64 cc.2) (.string d.2) (.slice A4 xs.length c4))
            have hS := (Fr.refl (fun k => k = w.heap.size) wr).set5v (g := w.heap.size) (.inl rfl) (.int .i64 a.2) (.int .i64 b.2) (.int .i64 cc.2) (.string d.2) (.slice A4 xs.length c4)
            refine bodyPost_ret (rgev_res (x := ⟨a.2, b.2, cc.2, d.2, xs⟩) (A := A4) (c := c4) (e := 0) hX rfl rfl) rfl ?_
            rw [HV.out, HE2.out]
            exact ⟨A4, c4, rfl, own_fr HG.out.own hS (fun k hk e => own_far HG.out.own HG.out.res (by decide) k hk e), HG.out.fr.set5v (.inr (Nat.le_refl _)) _ _ _ _ _⟩
          | cons b1 l1 =>
            have HV := Lib.hid (finEv_no (show fin E.1 = false by rw [HEE.out, ← hFx]; exact fin_cons b1 l1))
            obtain ⟨ll, hll⟩ : ∃ ll, ll = (b1 :: l1).length := ⟨_, rfl⟩
            have hl0 : (0 : Int) < (ll : Int) := by rw [hll]; simp
            rw [← hll] at c0
            clear hFx hll
            go_wp2
            refine bodyPost_ret (rgev_res (x := EvS.zero) (A := none) (c := 0) (e := 11) (HG.out.res.set5v (.int .i64 0) (.int .i64 0) (.int .i64 0) (.string ⟨#[]⟩) (.slice none 0 0)) rfl rfl) rfl ?_
            rw [HV.out]
            exact ⟨none, 0, rfl, World.ownsRow_nil _ _ _ _, HG.out.fr.set5v (.inr (Nat.le_refl _)) _ _ _ _ _⟩
        · have HV := Lib.hid (finEv_no (show fin E.1 = false by rw [HEE.out, ← hFx]; exact fin_true li))
          clear hFx
          go_wp2
          refine bodyPost_ret (rgev_res (x := EvS.zero) (A := none) (c := 0) (e := 11) (HG.out.res.set5v (.int .i64 0) (.int .i64 0) (.int .i64 0) (.string ⟨#[]⟩) (.slice none 0 0)) rfl rfl) rfl ?_
          rw [HV.out]
          exact ⟨none, 0, rfl, World.ownsRow_nil _ _ _ _, HG.out.fr.set5v (.inr (Nat.le_refl _)) _ _ _ _ _⟩
end Go.Proofs.Ytegogggemmcgdaa
