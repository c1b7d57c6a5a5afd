import Derived.Test.YtegogggemmcgdaaCG4
import Derived.Deep.DeepCutAuto
import Derived.Deep.CutBlock
set_option linter.unusedVariables false
set_option linter.unusedSimpArgs false
/- the reference's GetState. -/
namespace Go.Proofs.Ytegogggemmcgdaa
open Go Go.RowKit Go.Proofs

abbrev ST : TypeId := 62
abbrev T0 : TypeId := 118
abbrev T1 : TypeId := 131
abbrev T2 : TypeId := 121
abbrev T3 : TypeId := 124
/-- a state that is being read: its rows, its block, the result's, the bytes left -/
structure GS (w : World) (xb : Nat) (D : List Value) (v0 v1 v2 v3 : Value) (l0 : List JSt) (l1 : List CondS) (l2 : List ResS) (l3 : List HeldS) (s : RS) (wr : World) : Prop where
  r0 : wr.ownsRow w.heap.size T0 10 v0 l0.length (l0.flatMap JSt.vals)
  r1 : wr.ownsRow w.heap.size T1 2 v1 l1.length (l1.flatMap CondS.vals)
  r2 : wr.ownsRow w.heap.size T2 3 v2 l2.length (l2.flatMap ResS.vals)
  r3 : wr.ownsRow w.heap.size T3 4 v3 l3.length (l3.flatMap HeldS.vals)
  dst : Blk wr xb ST D
  out : Blk wr w.heap.size ST zeroSt
  sc : ScanAt wr (w.heap.size + 1) w.heap.size s
  fr : Fr No w wr
/-- only the scan's block and new ones have changed -/
abbrev FrN (p : Nat) (W w : World) : Prop := Fr (fun k => k = p ∨ W.heap.size ≤ k) W w
section
variable {w wr w1 w2 W : World} {xb p : Nat} {D : List Value} {v0 v1 v2 v3 : Value} {l0 : List JSt} {l1 : List CondS} {l2 : List ResS} {l3 : List HeldS} {s s1 : RS}
theorem FrN.refl (p : Nat) (W : World) : FrN p W W := Fr.refl _ _
theorem FrN.call (h : FrN p W w1) (hf : FrS p w1 w2) : FrN p W w2 := Fr.step (S := fun k => k = p ∨ W.heap.size ≤ k) h hf fun _ hi => .inl (.inl hi)
theorem FrN.new (h : FrN p W w1) (o : Obj) : FrN p W (w1.alloc o) := Fr.alloc h o
theorem FrN.put (h : FrN p W w1) {g : Nat} (hg : W.heap.size ≤ g) (i : Nat) (u : Value) : FrN p W (w1.setCell ⟨g, i, none⟩ u) := Fr.setCell (S := fun k => k = p ∨ W.heap.size ≤ k) h (p := ⟨g, i, none⟩) (.inr hg) u
theorem own_frn {base n size g : Nat} {e t : TypeId} {v : Value} {xs cs : List Value} (h : W.ownsRow base e size v n xs) (hB : Blk W p t cs) (ht : t ≠ e) (hf : FrN p W w1) : w1.ownsRow base e size v n xs :=
  own_fr h hf fun k hk hS => by
    rcases hS with h1 | h1
    · exact own_far h hB ht k hk h1
    · have := (own_size h k hk).2; omega
theorem GS.fr0 (h : GS w xb D v0 v1 v2 v3 l0 l1 l2 l3 s wr) (hf : Fr No wr w1) : GS w xb D v0 v1 v2 v3 l0 l1 l2 l3 s w1 :=
  ⟨own_fr0 h.r0 hf, own_fr0 h.r1 hf, own_fr0 h.r2 hf, own_fr0 h.r3 hf, h.dst.fr hf (fun h => h), h.out.fr hf (fun h => h), h.sc.fr0 hf, h.fr.trans hf⟩
theorem GS.round (h : GS w xb D v0 v1 v2 v3 l0 l1 l2 l3 s wr) (hx : w.heap.size + 1 < xb) (hf : FrN (w.heap.size + 1) wr w1) (hs : ScanAt w1 (w.heap.size + 1) w.heap.size s1) : GS w xb D v0 v1 v2 v3 l0 l1 l2 l3 s1 w1 := by
  obtain ⟨cs, hb⟩ := h.sc.blk
  exact ⟨own_frn (g := 0) h.r0 hb (by decide) hf, own_frn (g := 0) h.r1 hb (by decide) hf, own_frn (g := 0) h.r2 hb (by decide) hf, own_frn (g := 0) h.r3 hb (by decide) hf,
    h.dst.fr hf (fun hk => by have := h.dst.lt; rcases hk with e | e <;> omega), h.out.fr hf (fun hk => by have := h.out.lt; rcases hk with e | e <;> omega), hs,
    h.fr.step hf (fun i hi => .inr (by have := h.fr.size; rcases hi with e | e <;> omega))⟩
theorem GS.put (h : GS w xb D v0 v1 v2 v3 l0 l1 l2 l3 s wr) (hx : w.heap.size + 1 < xb) (i : Nat) (u : Value) : GS w xb (D.set i u) v0 v1 v2 v3 l0 l1 l2 l3 s (wr.setCell ⟨xb, i, none⟩ u) := by
  have hf : Fr (fun k => k = xb) wr (wr.setCell ⟨xb, i, none⟩ u) := (Fr.refl (fun k => k = xb) wr).setCell (p := ⟨xb, i, none⟩) (.inl rfl) u
  exact ⟨own_fr h.r0 hf (fun k hk e => own_far h.r0 h.dst (by decide) k hk e), own_fr h.r1 hf (fun k hk e => own_far h.r1 h.dst (by decide) k hk e), own_fr h.r2 hf (fun k hk e => own_far h.r2 h.dst (by decide) k hk e), own_fr h.r3 hf (fun k hk e => own_far h.r3 h.dst (by decide) k hk e),
    h.dst.set_ i u, h.out.far (p := ⟨xb, i, none⟩) (show w.heap.size ≠ xb by omega) u, h.sc.fr hf (show ¬ w.heap.size + 1 = xb by omega) (fun k hk => by omega), h.fr.setCell (p := ⟨xb, i, none⟩) (.inr (show w.heap.size ≤ xb by omega)) u⟩
theorem GS.grow0 {u : Value} {y : JSt} (h : GS w xb D v0 v1 v2 v3 l0 l1 l2 l3 s wr) (ho : w1.ownsRow w.heap.size T0 10 u (l0.length + 1) (l0.flatMap JSt.vals ++ y.vals)) (hg : wr.grownBy w1 v0.ownBlock) : GS w xb D u v1 v2 v3 (l0 ++ [y]) l1 l2 l3 s w1 :=
  ⟨by simpa using ho, own_other h.r1 h.r0 (by decide) hg, own_other h.r2 h.r0 (by decide) hg, own_other h.r3 h.r0 (by decide) hg, h.dst.grown hg (fun k hk => own_far h.r0 h.dst (by decide) k hk), h.out.grown hg (fun k hk => own_far h.r0 h.out (by decide) k hk),
    h.sc.fr (Fr.of_grown hg) (fun hk => by obtain ⟨cs, hb⟩ := h.sc.blk; exact own_far h.r0 hb (by decide) _ hk.symm rfl) (fun i hk => (own_size h.r0 i hk.symm).1), h.fr.grown hg (fun i hk => .inr (own_size h.r0 i hk).1)⟩
theorem GS.grow1 {u : Value} {y : CondS} (h : GS w xb D v0 v1 v2 v3 l0 l1 l2 l3 s wr) (ho : w1.ownsRow w.heap.size T1 2 u (l1.length + 1) (l1.flatMap CondS.vals ++ y.vals)) (hg : wr.grownBy w1 v1.ownBlock) : GS w xb D v0 u v2 v3 l0 (l1 ++ [y]) l2 l3 s w1 :=
  ⟨own_other h.r0 h.r1 (by decide) hg, by simpa using ho, own_other h.r2 h.r1 (by decide) hg, own_other h.r3 h.r1 (by decide) hg, h.dst.grown hg (fun k hk => own_far h.r1 h.dst (by decide) k hk), h.out.grown hg (fun k hk => own_far h.r1 h.out (by decide) k hk),
    h.sc.fr (Fr.of_grown hg) (fun hk => by obtain ⟨cs, hb⟩ := h.sc.blk; exact own_far h.r1 hb (by decide) _ hk.symm rfl) (fun i hk => (own_size h.r1 i hk.symm).1), h.fr.grown hg (fun i hk => .inr (own_size h.r1 i hk).1)⟩
theorem GS.grow2 {u : Value} {y : ResS} (h : GS w xb D v0 v1 v2 v3 l0 l1 l2 l3 s wr) (ho : w1.ownsRow w.heap.size T2 3 u (l2.length + 1) (l2.flatMap ResS.vals ++ y.vals)) (hg : wr.grownBy w1 v2.ownBlock) : GS w xb D v0 v1 u v3 l0 l1 (l2 ++ [y]) l3 s w1 :=
  ⟨own_other h.r0 h.r2 (by decide) hg, own_other h.r1 h.r2 (by decide) hg, by simpa using ho, own_other h.r3 h.r2 (by decide) hg, h.dst.grown hg (fun k hk => own_far h.r2 h.dst (by decide) k hk), h.out.grown hg (fun k hk => own_far h.r2 h.out (by decide) k hk),
    h.sc.fr (Fr.of_grown hg) (fun hk => by obtain ⟨cs, hb⟩ := h.sc.blk; exact own_far h.r2 hb (by decide) _ hk.symm rfl) (fun i hk => (own_size h.r2 i hk.symm).1), h.fr.grown hg (fun i hk => .inr (own_size h.r2 i hk).1)⟩
theorem GS.grow3 {u : Value} {y : HeldS} (h : GS w xb D v0 v1 v2 v3 l0 l1 l2 l3 s wr) (ho : w1.ownsRow w.heap.size T3 4 u (l3.length + 1) (l3.flatMap HeldS.vals ++ y.vals)) (hg : wr.grownBy w1 v3.ownBlock) : GS w xb D v0 v1 v2 u l0 l1 l2 (l3 ++ [y]) s w1 :=
  ⟨own_other h.r0 h.r3 (by decide) hg, own_other h.r1 h.r3 (by decide) hg, own_other h.r2 h.r3 (by decide) hg, by simpa using ho, h.dst.grown hg (fun k hk => own_far h.r3 h.dst (by decide) k hk), h.out.grown hg (fun k hk => own_far h.r3 h.out (by decide) k hk),
    h.sc.fr (Fr.of_grown hg) (fun hk => by obtain ⟨cs, hb⟩ := h.sc.blk; exact own_far h.r3 hb (by decide) _ hk.symm rfl) (fun i hk => (own_size h.r3 i hk.symm).1), h.fr.grown hg (fun i hk => .inr (own_size h.r3 i hk).1)⟩
end
theorem ScanAt.far {w : World} {n : Nat} {s : RS} (h : ScanAt w (n + 1) n s) {g : Nat} (hg : n + 1 < g) (i : Nat) (u : Value) : ScanAt (w.setCell ⟨g, i, none⟩ u) (n + 1) n s :=
  h.fr ((Fr.refl (fun k => k = g) w).setCell (p := ⟨g, i, none⟩) (.inl rfl) u) (show ¬ n + 1 = g by omega) (fun k hk => by omega)
def GSRel {α : Type} (rs : RS → RS × α) (P : Value → RS → List α → World → Prop) (N : Nat) (F : RS × List α) (g : Nat) (v8 : Value) (wr : World) : Prop :=
  ∃ (v : Value) (s : RS) (xs : List α), v8 = .int .i64 g ∧ P v s xs wr ∧ xs.length + g = N ∧ foldR rs g s xs = F
def GSOut {α : Type} (P : Value → RS → List α → World → Prop) (F : RS × List α) (wr : World) : Prop := ∃ v : Value, P v F.1 F.2 wr
/-- what the reference's GetState leaves -/
def GetStR (x : ByteArray × StS × Int) (w : World) (e : Ending) (w' : World) : Prop :=
  ∃ A0 A1 A2 A3 c0 c1 c2 c3, e = .returned (.tuple #[.string x.1, x.2.1.agg A0 A1 A2 A3 c0 c1 c2 c3, .int .i64 x.2.2]) ∧ StSl w' x.2.1 A0 A1 A2 A3 T0 T1 T2 T3 ∧ Fr No w w'
theorem rgst_res {tmps : Array Value} {w : World} {g : Nat} {s : ByteArray} {x : StS} {A0 A1 A2 A3 : Option Addr} {c0 c1 c2 c3 : Nat} {e : Int} (h : Blk w g ST (x.cells A0 A1 A2 A3 c0 c1 c2 c3)) (h3 : tmps.getD 2 undef = .string s) (h4 : tmps.getD 3 undef = .pointer (some ⟨g, 0, none⟩)) (h5 : tmps.getD 4 undef = .int .i64 e) :
    (results Try.f38 tmps).run Try.prog w = .ok (.tuple #[.string s, x.agg A0 A1 A2 A3 c0 c1 c2 c3, .int .i64 e]) w := by
  obtain ⟨r0, r1, r2, r3, r4, r5, r6, r7⟩ := h.cells8
  simp only [Array.getD_eq_getD_getElem?] at h3 h4 h5
  simp [results, Try.results38, go_sem, h3, h4, h5, r0, r1, r2, r3, r4, r5, r6, r7]
def finSt (E : RS × (ByteArray × StS)) : ByteArray × StS × Int := if fin E.1 then (E.2.1, E.2.2, 0) else (⟨#[]⟩, StS.zero, 11)
theorem finSt_yes {E : RS × (ByteArray × StS)} (h : fin E.1 = true) : finSt E = (E.2.1, E.2.2, 0) := if_pos h
theorem finSt_no {E : RS × (ByteArray × StS)} (h : fin E.1 = false) : finSt E = (⟨#[]⟩, StS.zero, 11) := if_neg (by rw [h]; simp)
theorem getStS_fin (b0 : UInt8) (r : Bs) : getStS (b0 :: r) = finSt (stS (openS b0 r 87)) := getStS_cons b0 r
attribute [irreducible] finSt
set_option maxRecDepth 100000 in
theorem rgetSt_nil (A : Option Addr) (c : Nat) (w : World) : Calls Try.prog 38 #[.slice A 0 c] w (GetStR (⟨#[]⟩, StS.zero, 10) w) := by
  have HB := Lib.hid (Blk.new w ST zeroSt)
  have HF := Lib.hid ((Fr.refl No w).alloc (Obj.cells (zeroSt).toArray ST))
  go_enter Try.func38, Try.ntmps38
  go_wp2
  exact bodyPost_ret (rgst_res (x := StS.zero) (s := ⟨#[]⟩) (A0 := none) (A1 := none) (A2 := none) (A3 := none) (c0 := 0) (c1 := 0) (c2 := 0) (c3 := 0) (e := 10) HB.out rfl rfl rfl) rfl ⟨none, none, none, none, 0, 0, 0, 0, rfl, ⟨Sl.nil _ _ _ _, Sl.nil _ _ _ _, Sl.nil _ _ _ _, Sl.nil _ _ _ _⟩, HF.out⟩
set_option maxRecDepth 100000 in
set_option maxHeartbeats 20000000 in
theorem rgetSt_cons (g o c : Nat) (e : TypeId) (b0 : UInt8) (r l : Bs) (hl : l = b0 :: r) (w : World) (h : BsIn w (some ⟨g, o, none⟩) c e l) :
    Calls Try.prog 38 #[.slice (some ⟨g, o, none⟩) l.length c] w (GetStR (finSt (stS (openS b0 r 87))) w) := by
  have HB := Lib.hid (Blk.new w ST zeroSt)
  have HF := Lib.hid ((Fr.refl No w).alloc (Obj.cells (zeroSt).toArray ST))
  have hpos : 0 < l.length := by rw [hl]; simp
  have k0 := at8_cell h.sl rfl 0 hpos
  rw [Nat.add_zero, at8_def, show l.getD 0 0 = b0 by rw [hl]; rfl] at k0
  have kg := sl_lt h.sl hpos
  have hs2 : ∀ w, (Instr.slice 50 (.slice (some ⟨g, o, none⟩) l.length c) (some (.int .i64 1)) none none).run Try.prog w = .ok (.slice (cutA (some ⟨g, o, none⟩) 1 c) r.length (c - 1)) w := fun w => by
    have := slice_l (A := some ⟨g, o, none⟩) (n := l.length) (c := c) .i64 1 (by omega) w
    rw [show l.length - 1 = r.length by rw [hl]; simp] at this
    exact this
  have hS2 := sl_cut h.sl (lo := 1) (hi := l.length) (c := c) (by omega) (Nat.le_refl _) h.cap
  have HS2 : Hid (Sl w e 1 (cutA (some ⟨g, o, none⟩) 1 c) r.length (enc8 r)) := Lib.hid (by subst hl; simpa using hS2)
  obtain ⟨A5, hA5⟩ : ∃ A5, A5 = cutA (some ⟨g, o, none⟩) 1 c := ⟨_, rfl⟩
  have HA5 : Hid (∀ a, A5 = some a → a.block < w.heap.size) := Lib.hid (by rw [hA5]; exact cutA_under h.below)
  rw [← hA5] at hs2 HS2
  have HRL := Lib.hid (show l.length = r.length + 1 by rw [hl]; rfl)
  have HC := Lib.hid h.cap
  have HM := Lib.hid h.most
  have hl0 : (0 : Int) < (l.length : Int) := by omega
  have hlz : ((l.length : Int) == 0) = false := by rw [beq_eq_false_iff_ne]; omega
  have hl6 : l ≠ [] := by rw [hl]; simp
  obtain ⟨E, hE⟩ : ∃ E, E = stS (openS b0 r 87) := ⟨_, rfl⟩
  rw [← hE]
  have HEE := Lib.hid hE
  have hop : openS b0 r 87 = (decide (b0 ≠ 87) || decide (60000 < r.length + 1), r) := by unfold openS; rfl
  have HOP := Lib.hid hop
  clear h hl hS2 hA5 hE hop
  have HPP := Lib.hid (show w.heap.size ≤ w.heap.size + 1 by omega)
  have HBX : Hid (∀ bd, ScanAt (((w.alloc (Obj.cells (zeroSt).toArray ST)).alloc (Obj.cells #[.slice A5 r.length (c - 1), .bool bd] 136)).drew) (w.heap.size + 1) w.heap.size (bd, r) ∧ Blk (((w.alloc (Obj.cells (zeroSt).toArray ST)).alloc (Obj.cells #[.slice A5 r.length (c - 1), .bool bd] 136)).drew) w.heap.size ST zeroSt ∧ Fr No w (((w.alloc (Obj.cells (zeroSt).toArray ST)).alloc (Obj.cells #[.slice A5 r.length (c - 1), .bool bd] 136)).drew)) := Lib.hid (fun bd => by
    have F1 := (HF.out.alloc (Obj.cells #[.slice A5 r.length (c - 1), .bool bd] 136)).drew
    have hn1 := (Blk.new (w.alloc (Obj.cells (zeroSt).toArray ST)) 136 [.slice A5 r.length (c - 1), .bool bd]).drew
    have en : (w.alloc (Obj.cells (zeroSt).toArray ST)).heap.size = w.heap.size + 1 := by simp
    rw [en] at hn1
    exact ⟨⟨A5, c - 1, e, hn1, HS2.out.fr0 F1, HA5.out, by show r.length ≤ c - 1; have := HC.out; have := HRL.out; omega, by show r.length ≤ maxLen; have := HM.out; have := HRL.out; omega⟩, (HB.out.alloc _).drew, F1⟩)
  go_enter Try.func38, Try.ntmps38
  go_upto_region 3 with fail
  go_cut [5] (fun s5 wx => s5 = .pointer (some ⟨w.heap.size + 1, 0, none⟩) ∧ ScanAt wx (w.heap.size + 1) w.heap.size (openS b0 r 87) ∧ Blk wx w.heap.size ST zeroSt ∧ Fr No w wx)
  case first =>
    by_cases hb : b0 = 87
    · subst hb
      by_cases hlong : 60000 < l.length
      · have hlong1 : (60000 : Int) < (l.length : Int) := by omega
        have e0 := HOP.out
        rw [show (decide ((87 : UInt8) ≠ 87) || decide (60000 < r.length + 1)) = true by have := HRL.out; simp; omega] at e0
        have HE0 := Lib.hid e0
        clear e0 hlong
        refine wp_region_o [(0, 0), (1, 0), (2, 0), (3, 0), (4, 1), (5, 0), (6, 0), (7, 0), (8, 0), (9, 0), (10, 0), (11, 0), (12, 2), (13, 0)] (by kernel_rfl) (by kernel_rfl) ?_
        repeat (first
          | (apply wpO_pure rfl rfl; (focus (intro w'; go_simp; (try rfl); done)); try simp only [Act.put, List.setIfInBounds_toArray, List.set_cons_zero, List.set_cons_succ])
          | (apply wpO_read rfl rfl; (focus (intro w' hf' hs'; (try simp only [World.size_drew, World.cell?_drew, World.size_alloc, World.size_setCell] at hs'); go_simp; (try rfl); done)); try simp only [Act.put, List.setIfInBounds_toArray, List.set_cons_zero, List.set_cons_succ])
          | (apply wpO_skip (by decide) rfl rfl; try simp only [Act.put, List.setIfInBounds_toArray, List.set_cons_zero, List.set_cons_succ]))
        refine wpO_loudE rfl fun K hK => ?_
        go_simp
        refine hK _ _ ⟨((Fr.refl No _).alloc _).drew.drewL, ?_⟩
        clear hK K
        repeat (first
          | (apply wpO_pure rfl rfl; (focus (intro w'; go_simp; (try rfl); done)); try simp only [Act.put, List.setIfInBounds_toArray, List.set_cons_zero, List.set_cons_succ])
          | (apply wpO_read rfl rfl; (focus (intro w' hf' hs'; (try simp only [World.size_drew, World.cell?_drew, World.size_alloc, World.size_setCell] at hs'); go_simp; (try rfl); done)); try simp only [Act.put, List.setIfInBounds_toArray, List.set_cons_zero, List.set_cons_succ])
          | (apply wpO_skip (by decide) rfl rfl; try simp only [Act.put, List.setIfInBounds_toArray, List.set_cons_zero, List.set_cons_succ]))
        refine wpO_nil ?_
        go_wp2_with fail
        go_meet
        rw [HE0.out]
        exact ⟨rfl, HBX.out true⟩
      · have hlong1 : ¬ (60000 : Int) < (l.length : Int) := by omega
        have e0 := HOP.out
        rw [show (decide ((87 : UInt8) ≠ 87) || decide (60000 < r.length + 1)) = false by have := HRL.out; simp; omega] at e0
        have HE0 := Lib.hid e0
        clear e0 hlong
        refine wp_region_o [(0, 0), (1, 0), (2, 0), (3, 0), (4, 1), (5, 0), (6, 0), (7, 0), (8, 0), (9, 0), (10, 0), (11, 0), (12, 2), (13, 0)] (by kernel_rfl) (by kernel_rfl) ?_
        repeat (first
          | (apply wpO_pure rfl rfl; (focus (intro w'; go_simp; (try rfl); done)); try simp only [Act.put, List.setIfInBounds_toArray, List.set_cons_zero, List.set_cons_succ])
          | (apply wpO_read rfl rfl; (focus (intro w' hf' hs'; (try simp only [World.size_drew, World.cell?_drew, World.size_alloc, World.size_setCell] at hs'); go_simp; (try rfl); done)); try simp only [Act.put, List.setIfInBounds_toArray, List.set_cons_zero, List.set_cons_succ])
          | (apply wpO_skip (by decide) rfl rfl; try simp only [Act.put, List.setIfInBounds_toArray, List.set_cons_zero, List.set_cons_succ]))
        refine wpO_loudE rfl fun K hK => ?_
        go_simp
        refine hK _ _ ⟨((Fr.refl No _).alloc _).drew.drewL, ?_⟩
        clear hK K
        repeat (first
          | (apply wpO_pure rfl rfl; (focus (intro w'; go_simp; (try rfl); done)); try simp only [Act.put, List.setIfInBounds_toArray, List.set_cons_zero, List.set_cons_succ])
          | (apply wpO_read rfl rfl; (focus (intro w' hf' hs'; (try simp only [World.size_drew, World.cell?_drew, World.size_alloc, World.size_setCell] at hs'); go_simp; (try rfl); done)); try simp only [Act.put, List.setIfInBounds_toArray, List.set_cons_zero, List.set_cons_succ])
          | (apply wpO_skip (by decide) rfl rfl; try simp only [Act.put, List.setIfInBounds_toArray, List.set_cons_zero, List.set_cons_succ]))
        refine wpO_nil ?_
        go_wp2_with fail
        go_meet
        rw [HE0.out]
        exact ⟨rfl, HBX.out false⟩
    · have hk0 : ((b0.toNat : Int) != 87) = true := by
        rw [bne_iff_ne]
        intro h3
        exact hb (UInt8.toNat_inj.1 (by have : (87 : UInt8).toNat = 87 := rfl; omega))
      have e0 := HOP.out
      rw [show (decide (b0 ≠ 87) || decide (60000 < r.length + 1)) = true by simp [hb]] at e0
      have HE0 := Lib.hid e0
      clear e0 hb
      refine wp_region_o [(0, 0), (1, 0), (2, 0), (3, 0), (4, 1), (5, 0), (6, 0), (7, 0), (8, 0), (9, 0), (10, 0), (11, 0), (12, 2), (13, 0)] (by kernel_rfl) (by kernel_rfl) ?_
      repeat (first
        | (apply wpO_pure rfl rfl; (focus (intro w'; go_simp; (try rfl); done)); try simp only [Act.put, List.setIfInBounds_toArray, List.set_cons_zero, List.set_cons_succ])
        | (apply wpO_read rfl rfl; (focus (intro w' hf' hs'; (try simp only [World.size_drew, World.cell?_drew, World.size_alloc, World.size_setCell] at hs'); go_simp; (try rfl); done)); try simp only [Act.put, List.setIfInBounds_toArray, List.set_cons_zero, List.set_cons_succ])
        | (apply wpO_skip (by decide) rfl rfl; try simp only [Act.put, List.setIfInBounds_toArray, List.set_cons_zero, List.set_cons_succ]))
      refine wpO_loudE rfl fun K hK => ?_
      go_simp
      refine hK _ _ ⟨((Fr.refl No _).alloc _).drew.drewL, ?_⟩
      clear hK K
      repeat (first
        | (apply wpO_pure rfl rfl; (focus (intro w'; go_simp; (try rfl); done)); try simp only [Act.put, List.setIfInBounds_toArray, List.set_cons_zero, List.set_cons_succ])
        | (apply wpO_read rfl rfl; (focus (intro w' hf' hs'; (try simp only [World.size_drew, World.cell?_drew, World.size_alloc, World.size_setCell] at hs'); go_simp; (try rfl); done)); try simp only [Act.put, List.setIfInBounds_toArray, List.set_cons_zero, List.set_cons_succ])
        | (apply wpO_skip (by decide) rfl rfl; try simp only [Act.put, List.setIfInBounds_toArray, List.set_cons_zero, List.set_cons_succ]))
      refine wpO_nil ?_
      go_wp2_with fail
      go_meet
      rw [HE0.out]
      exact ⟨rfl, HBX.out true⟩
  case rest =>
    obtain ⟨rfl, hs1, hb1, hf1⟩ := hcut
    obtain ⟨s0, hs0⟩ : ∃ s0, s0 = openS b0 r 87 := ⟨_, rfl⟩
    rw [← hs0] at hs1 HEE
    have HS_s0 := Lib.hid hs1
    have HB1 := Lib.hid hb1
    have HF1 := Lib.hid hf1
    clear hs0 hs1 hb1 hf1 HBX HOP k0 kg hs2 HS2 HA5 HRL HC HM hl0 hlz hl6 HB HF
    unfold stS at HEE
    simp only at HEE
    obtain ⟨t, h_t⟩ : ∃ x, x = textS s0 ⟨#[]⟩ 8192 := ⟨_, rfl⟩
    rw [← h_t] at HEE
    have H_t := Lib.hid h_t
    clear h_t
    obtain ⟨a, h_a⟩ : ∃ x, x = numS t.1 0 := ⟨_, rfl⟩
    rw [← h_a] at HEE
    have H_a := Lib.hid h_a
    clear h_a
    obtain ⟨b, h_b⟩ : ∃ x, x = numS a.1 0 := ⟨_, rfl⟩
    rw [← h_b] at HEE
    have H_b := Lib.hid h_b
    clear h_b
    obtain ⟨cc, h_cc⟩ : ∃ x, x = numS b.1 0 := ⟨_, rfl⟩
    rw [← h_cc] at HEE
    have H_cc := Lib.hid h_cc
    clear h_cc
    obtain ⟨d, h_d⟩ : ∃ x, x = numS cc.1 0 := ⟨_, rfl⟩
    rw [← h_d] at HEE
    have H_d := Lib.hid h_d
    clear h_d
    rw [listS_manyV jobS d.1 4096] at HEE
    obtain ⟨N0, hN0⟩ : ∃ N, N = (manyV d.1 4096).toNat := ⟨_, rfl⟩
    obtain ⟨m0, h_m0⟩ : ∃ m, m = (manyS d.1 0 4096).1 := ⟨_, rfl⟩
    rw [← hN0, ← h_m0] at HEE
    obtain ⟨F0, hF0⟩ : ∃ F, F = foldR jobS N0 m0 [] := ⟨_, rfl⟩
    rw [← hF0, listS_manyV condS F0.1 4096] at HEE
    have HV0 : Hid (manyV d.1 4096 = (N0 : Int) ∧ N0 ≤ 4096) := Lib.hid (by obtain ⟨h0, h1⟩ := manyV_pos d.1 4096 (by omega); omega)
    have H_m0 := Lib.hid h_m0
    have H_F0 := Lib.hid hF0
    clear hN0 h_m0 hF0
    obtain ⟨N1, hN1⟩ : ∃ N, N = (manyV F0.1 4096).toNat := ⟨_, rfl⟩
    obtain ⟨m1, h_m1⟩ : ∃ m, m = (manyS F0.1 0 4096).1 := ⟨_, rfl⟩
    rw [← hN1, ← h_m1] at HEE
    obtain ⟨F1, hF1⟩ : ∃ F, F = foldR condS N1 m1 [] := ⟨_, rfl⟩
    rw [← hF1, listS_manyV resS F1.1 4096] at HEE
    have HV1 : Hid (manyV F0.1 4096 = (N1 : Int) ∧ N1 ≤ 4096) := Lib.hid (by obtain ⟨h0, h1⟩ := manyV_pos F0.1 4096 (by omega); omega)
    have H_m1 := Lib.hid h_m1
    have H_F1 := Lib.hid hF1
    clear hN1 h_m1 hF1
    obtain ⟨N2, hN2⟩ : ∃ N, N = (manyV F1.1 4096).toNat := ⟨_, rfl⟩
    obtain ⟨m2, h_m2⟩ : ∃ m, m = (manyS F1.1 0 4096).1 := ⟨_, rfl⟩
    rw [← hN2, ← h_m2] at HEE
    obtain ⟨F2, hF2⟩ : ∃ F, F = foldR resS N2 m2 [] := ⟨_, rfl⟩
    rw [← hF2, listS_manyV heldS F2.1 4096] at HEE
    have HV2 : Hid (manyV F1.1 4096 = (N2 : Int) ∧ N2 ≤ 4096) := Lib.hid (by obtain ⟨h0, h1⟩ := manyV_pos F1.1 4096 (by omega); omega)
    have H_m2 := Lib.hid h_m2
    have H_F2 := Lib.hid hF2
    clear hN2 h_m2 hF2
    obtain ⟨N3, hN3⟩ : ∃ N, N = (manyV F2.1 4096).toNat := ⟨_, rfl⟩
    obtain ⟨m3, h_m3⟩ : ∃ m, m = (manyS F2.1 0 4096).1 := ⟨_, rfl⟩
    rw [← hN3, ← h_m3] at HEE
    obtain ⟨F3, hF3⟩ : ∃ F, F = foldR heldS N3 m3 [] := ⟨_, rfl⟩
    rw [← hF3] at HEE
    have HV3 : Hid (manyV F2.1 4096 = (N3 : Int) ∧ N3 ≤ 4096) := Lib.hid (by obtain ⟨h0, h1⟩ := manyV_pos F2.1 4096 (by omega); omega)
    have H_m3 := Lib.hid h_m3
    have H_F3 := Lib.hid hF3
    clear hN3 h_m3 hF3
    go_upto_block 0 with (first
      | (go_at_call 73; go_loud (refine (manyT_any (w.heap.size + 1) w.heap.size d.1 4096 _ (HS_d.out.fr0 ((Fr.refl No w6).alloc (Obj.cells #[.int .i64 a.2, .int .i64 b.2, .int .i64 cc.2, .int .i64 d.2, .slice none 0 0, .slice none 0 0, .slice none 0 0, .slice none 0 0] ST))) HPP.out (by omega)).mono ?_); rintro e w7 ⟨rfl, hs, hf⟩; rw [HV0.out.1]; rw [← H_m0.out] at hs; have HS_m0 := Lib.hid hs; have HF7 := Lib.hid hf; clear hs hf)
      | (have _t := HS_cc; go_at_call 71; go_loud (refine (numT_any (w.heap.size + 1) w.heap.size cc.1 _ HS_cc.out HPP.out).mono ?_); rintro e w6 ⟨rfl, hs, hf⟩; rw [← H_d.out] at hs ⊢; have HS_d := Lib.hid hs; have HF6 := Lib.hid (HF5.out.call hf); clear hs hf)
      | (have _t := HS_b; go_at_call 71; go_loud (refine (numT_any (w.heap.size + 1) w.heap.size b.1 _ HS_b.out HPP.out).mono ?_); rintro e w5 ⟨rfl, hs, hf⟩; rw [← H_cc.out] at hs ⊢; have HS_cc := Lib.hid hs; have HF5 := Lib.hid (HF4.out.call hf); clear hs hf)
      | (have _t := HS_a; go_at_call 71; go_loud (refine (numT_any (w.heap.size + 1) w.heap.size a.1 _ HS_a.out HPP.out).mono ?_); rintro e w4 ⟨rfl, hs, hf⟩; rw [← H_b.out] at hs ⊢; have HS_b := Lib.hid hs; have HF4 := Lib.hid (HF3.out.call hf); clear hs hf)
      | (have _t := HS_t; go_at_call 71; go_loud (refine (numT_any (w.heap.size + 1) w.heap.size t.1 _ HS_t.out HPP.out).mono ?_); rintro e w3 ⟨rfl, hs, hf⟩; rw [← H_a.out] at hs ⊢; have HS_a := Lib.hid hs; have HF3 := Lib.hid (HF2.out.call hf); clear hs hf)
      | (go_at_call 72; go_loud (refine (textT_any (w.heap.size + 1) w.heap.size s0 8192 _ HS_s0.out HPP.out (by omega)).mono ?_); rintro e w2 ⟨rfl, hs, hf⟩; rw [← H_t.out] at hs ⊢; have HS_t := Lib.hid hs; have HF2 := Lib.hid ((FrN.refl (w.heap.size + 1) wc).call hf); clear hs hf))
    have HPW := Lib.hid (show w.heap.size + 1 < w6.heap.size from HS_d.out.lt)
    have HG0 : Hid (GS w w6.heap.size [.int .i64 a.2, .int .i64 b.2, .int .i64 cc.2, .int .i64 d.2, .slice none 0 0, .slice none 0 0, .slice none 0 0, .slice none 0 0] nilV nilV nilV nilV [] [] [] [] m0 w7) := Lib.hid (by
      have hpw := HPW.out
      have hB6 := HB1.out.fr HF6.out (fun hk => by have := HB1.out.lt; rcases hk with e | e <;> omega)
      have hF6 := HF1.out.step HF6.out (fun i hi => .inr (by have := HF1.out.size; rcases hi with e | e <;> omega))
      exact ⟨World.ownsRow_nil _ _ _ _, World.ownsRow_nil _ _ _ _, World.ownsRow_nil _ _ _ _, World.ownsRow_nil _ _ _ _, (Blk.new w6 ST [.int .i64 a.2, .int .i64 b.2, .int .i64 cc.2, .int .i64 d.2, .slice none 0 0, .slice none 0 0, .slice none 0 0, .slice none 0 0]).fr HF7.out (by omega), (hB6.alloc _).fr HF7.out (by omega), HS_m0.out, (hF6.alloc _).step HF7.out (fun i hi => .inr (by omega))⟩)
    obtain ⟨xb, hxb⟩ : ∃ xb, xb = w6.heap.size := ⟨_, rfl⟩
    rw [← hxb] at HG0 HPW
    rw [← hxb]
    have HXB := Lib.hid hxb
    have hxp := HPW.out
    clear hxb HF7 HF6 HF5 HF4 HF3 HF2 HS_m0 HS_d HS_cc HS_b HS_a HS_t HS_s0 HB1 HF1
    go_cut [8] (fun s8 wx => GSOut (fun v s xs wr => GS w xb [.int .i64 a.2, .int .i64 b.2, .int .i64 cc.2, .int .i64 d.2, v, nilV, nilV, nilV] v nilV nilV nilV xs [] [] [] s wr) F0 wx)
    case first =>
      obtain ⟨iT, hiT, hzT, hsT, hbT⟩ := info_parts (show (Try.prog.info? T0).map (fun i => (i.zero, i.size, i.bytes)) = some (some (.agg #[.int .i64 0, .int .i64 0, .int .i64 0, .int .i64 0, .bool false, .bool false, .int .i64 0, .int .i64 0, .int .i64 0, .int .i64 0]), 10, 72) by kernel_rfl)
      go_wp2_with fail
      go_loopg [8] N0 (fun g v8 wr => GSRel jobS (fun v s xs wr => GS w xb [.int .i64 a.2, .int .i64 b.2, .int .i64 cc.2, .int .i64 d.2, v, nilV, nilV, nilV] v nilV nilV nilV xs [] [] [] s wr) N0 F0 g v8 wr)
      case atStart => exact ⟨nilV, m0, [], rfl, HG0.out, by simp, H_F0.out.symm⟩
      case round =>
        clear HG0
        obtain ⟨v, ⟨bi, li⟩, xs, rfl, hg, hxl, hfo⟩ := hrel
        have HG := Lib.hid hg
        have HXL := Lib.hid hxl
        have HFO := Lib.hid hfo
        clear hg hxl hfo
        have hN9 : (gk : Int) ≤ 4096 := by have := HV0.out.2; have := HXL.out; omega
        obtain ⟨A4, c4, rfl, _⟩ := own_shape HG.out.r0
        have HSC := Lib.hid HG.out.sc
        obtain ⟨As, cs, es, hBs, _⟩ := HSC.out
        have c0 := hBs.cell 0
        have c1 := hBs.cell 1
        have c2 := hBs.lt
        simp only [List.getElem?_cons_zero, List.getElem?_cons_succ] at c0 c1
        clear hBs
        rcases Nat.eq_zero_or_pos gk with h0 | h0
        · subst h0
          have hFx := HFO.out
          rw [foldR_zero] at hFx
          have HFX := Lib.hid hFx
          clear hFx
          cases bi
          all_goals
            go_wp2_with fail
            go_meet
            exact ⟨_, by rw [← HFX.out]; exact HG.out⟩
        · obtain ⟨k, rfl⟩ : ∃ k, gk = k + 1 := ⟨gk - 1, by omega⟩
          have hk0 : (0 : Int) ≤ (k : Int) := by omega
          cases bi
          · have hFx := HFO.out
            rw [foldR_succ] at hFx
            have HFX := Lib.hid hFx
            clear hFx
            obtain ⟨y0, h_y0⟩ : ∃ x, x = numS (false, li) 0 := ⟨_, rfl⟩
            have H_y0 := Lib.hid h_y0
            obtain ⟨y1, h_y1⟩ : ∃ x, x = numS y0.1 0 := ⟨_, rfl⟩
            have H_y1 := Lib.hid h_y1
            obtain ⟨y2, h_y2⟩ : ∃ x, x = numS y1.1 0 := ⟨_, rfl⟩
            have H_y2 := Lib.hid h_y2
            obtain ⟨y3, h_y3⟩ : ∃ x, x = numS y2.1 0 := ⟨_, rfl⟩
            have H_y3 := Lib.hid h_y3
            obtain ⟨y4, h_y4⟩ : ∃ x, x = truthS y3.1 false := ⟨_, rfl⟩
            have H_y4 := Lib.hid h_y4
            obtain ⟨y5, h_y5⟩ : ∃ x, x = truthS y4.1 false := ⟨_, rfl⟩
            have H_y5 := Lib.hid h_y5
            obtain ⟨y6, h_y6⟩ : ∃ x, x = numS y5.1 0 := ⟨_, rfl⟩
            have H_y6 := Lib.hid h_y6
            obtain ⟨y7, h_y7⟩ : ∃ x, x = numS y6.1 0 := ⟨_, rfl⟩
            have H_y7 := Lib.hid h_y7
            obtain ⟨y8, h_y8⟩ : ∃ x, x = numS y7.1 0 := ⟨_, rfl⟩
            have H_y8 := Lib.hid h_y8
            obtain ⟨y9, h_y9⟩ : ∃ x, x = numS y8.1 0 := ⟨_, rfl⟩
            have H_y9 := Lib.hid h_y9
            have HPT : Hid (jobS (false, li) = (y9.1, ⟨y0.2, y1.2, y2.2, y3.2, y4.2, y5.2, y6.2, y7.2, y8.2, y9.2⟩)) := Lib.hid (by unfold jobS; simp only; rw [← h_y0, ← h_y1, ← h_y2, ← h_y3, ← h_y4, ← h_y5, ← h_y6, ← h_y7, ← h_y8, ← h_y9])
            clear h_y0 h_y1 h_y2 h_y3 h_y4 h_y5 h_y6 h_y7 h_y8 h_y9
            rw [HPT.out] at HFX
            obtain ⟨y, hy⟩ : ∃ y : JSt, y = ⟨y0.2, y1.2, y2.2, y3.2, y4.2, y5.2, y6.2, y7.2, y8.2, y9.2⟩ := ⟨_, rfl⟩
            rw [← hy] at HFX
            have HY := Lib.hid hy
            clear hy
            go_upto_region 14 with (first
              | (have _t := HJ8; (try clear j0_ j1_ j2_); go_at_call 71; go_loud (refine (numT_any (w.heap.size + 1) w.heap.size y8.1 _ (ScanAt.far HS_y8.out (show w.heap.size + 1 < x5.heap.size from HS_y5.out.lt) 8 (.int .i64 y8.2)) HPP.out).mono ?_); rintro e x9 ⟨rfl, hs, hf⟩; rw [← H_y9.out] at hs ⊢; have HS_y9 := Lib.hid hs; have HR9 := Lib.hid (FrN.call (FrN.put HR8.out (show wr.heap.size ≤ x5.heap.size from HR5.out.size) 8 (.int .i64 y8.2)) hf); have HJ9 := Lib.hid ((HJ8.out.set_ 8 (.int .i64 y8.2)).fr hf (by have := HS_y5.out.lt; omega)); have j0_ := HJ9.out.lt; have j1_ := HJ9.out.frozens; have j2_ := HJ9.out.cell 9; (try simp only [List.getElem?_cons_zero, List.getElem?_cons_succ] at j2_); clear hs hf)
              | (have _t := HJ7; (try clear j0_ j1_ j2_); go_at_call 71; go_loud (refine (numT_any (w.heap.size + 1) w.heap.size y7.1 _ (ScanAt.far HS_y7.out (show w.heap.size + 1 < x5.heap.size from HS_y5.out.lt) 7 (.int .i64 y7.2)) HPP.out).mono ?_); rintro e x8 ⟨rfl, hs, hf⟩; rw [← H_y8.out] at hs ⊢; have HS_y8 := Lib.hid hs; have HR8 := Lib.hid (FrN.call (FrN.put HR7.out (show wr.heap.size ≤ x5.heap.size from HR5.out.size) 7 (.int .i64 y7.2)) hf); have HJ8 := Lib.hid ((HJ7.out.set_ 7 (.int .i64 y7.2)).fr hf (by have := HS_y5.out.lt; omega)); have j0_ := HJ8.out.lt; have j1_ := HJ8.out.frozens; have j2_ := HJ8.out.cell 8; (try simp only [List.getElem?_cons_zero, List.getElem?_cons_succ] at j2_); clear hs hf)
              | (have _t := HJ6; (try clear j0_ j1_ j2_); go_at_call 71; go_loud (refine (numT_any (w.heap.size + 1) w.heap.size y6.1 _ (ScanAt.far HS_y6.out (show w.heap.size + 1 < x5.heap.size from HS_y5.out.lt) 6 (.int .i64 y6.2)) HPP.out).mono ?_); rintro e x7 ⟨rfl, hs, hf⟩; rw [← H_y7.out] at hs ⊢; have HS_y7 := Lib.hid hs; have HR7 := Lib.hid (FrN.call (FrN.put HR6.out (show wr.heap.size ≤ x5.heap.size from HR5.out.size) 6 (.int .i64 y6.2)) hf); have HJ7 := Lib.hid ((HJ6.out.set_ 6 (.int .i64 y6.2)).fr hf (by have := HS_y5.out.lt; omega)); have j0_ := HJ7.out.lt; have j1_ := HJ7.out.frozens; have j2_ := HJ7.out.cell 7; (try simp only [List.getElem?_cons_zero, List.getElem?_cons_succ] at j2_); clear hs hf)
              | (have _t := HR5; (try clear j0_ j1_ j2_); go_at_call 71; go_loud (refine (numT_any (w.heap.size + 1) w.heap.size y5.1 _ (HS_y5.out.fr0 ((Fr.refl No x5).alloc (Obj.cells #[.int .i64 y0.2, .int .i64 y1.2, .int .i64 y2.2, .int .i64 y3.2, .bool y4.2, .bool y5.2, .int .i64 0, .int .i64 0, .int .i64 0, .int .i64 0] T0))) HPP.out).mono ?_); rintro e x6 ⟨rfl, hs, hf⟩; rw [← H_y6.out] at hs ⊢; have HS_y6 := Lib.hid hs; have HR6 := Lib.hid (FrN.call (HR5.out.new (Obj.cells #[.int .i64 y0.2, .int .i64 y1.2, .int .i64 y2.2, .int .i64 y3.2, .bool y4.2, .bool y5.2, .int .i64 0, .int .i64 0, .int .i64 0, .int .i64 0] T0)) hf); have HJ6 := Lib.hid ((Blk.new x5 T0 [.int .i64 y0.2, .int .i64 y1.2, .int .i64 y2.2, .int .i64 y3.2, .bool y4.2, .bool y5.2, .int .i64 0, .int .i64 0, .int .i64 0, .int .i64 0]).fr hf (by have := HS_y5.out.lt; omega)); have j0_ := HJ6.out.lt; have j1_ := HJ6.out.frozens; have j2_ := HJ6.out.cell 6; (try simp only [List.getElem?_cons_zero, List.getElem?_cons_succ] at j2_); clear hs hf)
              | (have _t := HS_y4; go_at_call 74; go_loud (refine (truthT_any (w.heap.size + 1) w.heap.size y4.1 _ HS_y4.out HPP.out).mono ?_); rintro e x5 ⟨rfl, hs, hf⟩; rw [← H_y5.out] at hs ⊢; have HS_y5 := Lib.hid hs; have HR5 := Lib.hid (HR4.out.call hf); clear hs hf)
              | (have _t := HS_y3; go_at_call 74; go_loud (refine (truthT_any (w.heap.size + 1) w.heap.size y3.1 _ HS_y3.out HPP.out).mono ?_); rintro e x4 ⟨rfl, hs, hf⟩; rw [← H_y4.out] at hs ⊢; have HS_y4 := Lib.hid hs; have HR4 := Lib.hid (HR3.out.call hf); clear hs hf)
              | (have _t := HS_y2; go_at_call 70; go_loud (refine (smallT_any (w.heap.size + 1) w.heap.size y2.1 _ HS_y2.out HPP.out).mono ?_); rintro e x3 ⟨rfl, hs, hf⟩; rw [← H_y3.out] at hs ⊢; have HS_y3 := Lib.hid hs; have HR3 := Lib.hid (HR2.out.call hf); clear hs hf)
              | (have _t := HS_y1; go_at_call 71; go_loud (refine (numT_any (w.heap.size + 1) w.heap.size y1.1 _ HS_y1.out HPP.out).mono ?_); rintro e x2 ⟨rfl, hs, hf⟩; rw [← H_y2.out] at hs ⊢; have HS_y2 := Lib.hid hs; have HR2 := Lib.hid (HR1.out.call hf); clear hs hf)
              | (have _t := HS_y0; go_at_call 70; go_loud (refine (smallT_any (w.heap.size + 1) w.heap.size y0.1 _ HS_y0.out HPP.out).mono ?_); rintro e x1 ⟨rfl, hs, hf⟩; rw [← H_y1.out] at hs ⊢; have HS_y1 := Lib.hid hs; have HR1 := Lib.hid (HR0.out.call hf); clear hs hf)
              | (go_at_call 71; go_loud (refine (numT_any (w.heap.size + 1) w.heap.size (false, li) _ HSC.out HPP.out).mono ?_); rintro e x0 ⟨rfl, hs, hf⟩; rw [← H_y0.out] at hs ⊢; have HS_y0 := Lib.hid hs; have HR0 := Lib.hid ((FrN.refl (w.heap.size + 1) wr).call hf); clear hs hf))
            have HG2 := Lib.hid (HG.out.round hxp (FrN.put HR9.out (show wr.heap.size ≤ x5.heap.size from HR5.out.size) 9 (.int .i64 y9.2)) (ScanAt.far HS_y9.out (show w.heap.size + 1 < x5.heap.size from HS_y5.out.lt) 9 (.int .i64 y9.2)))
            have HJB : Hid (Blk (x9.setCell ⟨x5.heap.size, 9, none⟩ (.int .i64 y9.2)) x5.heap.size T0 y.vals) := Lib.hid (by rw [HY.out]; exact (HJ9.out.set_ 9 (.int .i64 y9.2)))
            clear HG HSC HS_y0 HS_y1 HS_y2 HS_y3 HS_y4 HS_y5 HS_y6 HS_y7 HS_y8 HS_y9 HR0 HR1 HR2 HR3 HR4 HR5 HR6 HR7 HR8 HR9 HJ6 HJ7 HJ8 HJ9
            (try clear j0_ j1_ j2_)
            clear c0 c1 c2
            generalize x9.setCell ⟨x5.heap.size, 9, none⟩ (.int .i64 y9.2) = W at HG2 HJB ⊢
            have e4 := HG2.out.dst.cell 4
            have e5 := HG2.out.dst.cell 5
            have e6 := HG2.out.dst.cell 6
            have e7 := HG2.out.dst.cell 7
            have e8 := HG2.out.dst.lt
            have e9 := HG2.out.dst.frozens
            simp only [List.getElem?_cons_zero, List.getElem?_cons_succ] at e4 e5 e6 e7
            have m0 := HJB.out.cell 0
            have m1 := HJB.out.cell 1
            have m2 := HJB.out.cell 2
            have m3 := HJB.out.cell 3
            have m4 := HJB.out.cell 4
            have m5 := HJB.out.cell 5
            have m6 := HJB.out.cell 6
            have m7 := HJB.out.cell 7
            have m8 := HJB.out.cell 8
            have m9 := HJB.out.cell 9
            have mL := HJB.out.lt
            simp only [List.getElem?_cons_zero, List.getElem?_cons_succ] at m0 m1 m2 m3 m4 m5 m6 m7 m8 m9
            go_wp2_with (at_builtin; go_loud (refine wpList_append_owned' (by rfl) (.tmp 83) (.tmp 85) 57 (by rfl) w.heap.size T0 iT _ 10 72 Try.underlying57 hiT hzT hsT hbT rfl (by omega) (.slice A4 xs.length c4) xs.length (xs.flatMap JSt.vals) (by rfl) (own_fr0 HG2.out.r0 ((Fr.refl No W).alloc (Obj.cells y.vals.toArray T0))) (some ⟨W.heap.size, 0, none⟩) 1 1 T0 y.vals (by rfl) (Sl.of_new W T0 10 1 y.vals.toArray y.vals rfl rfl) (List.all_eq_true.1 (by rfl)) (by have := HXL.out; have := HV0.out.2; simp only [maxLen]; omega) (by have := HXL.out; have := HV0.out.2; omega) (Nat.le_trans HG2.out.fr.size (by simp)) ?_); intro v4 w4 ho hgr hat; have HG4 := Lib.hid ((HG2.out.fr0 ((Fr.refl No W).alloc (Obj.cells y.vals.toArray T0))).grow0 ho hgr); obtain ⟨A6, c6, rfl, _⟩ := own_shape ho; clear ho hgr hat e4 e5 e6 e7 e8 e9 mL m0 m1 m2 m3 m4 m5 m6 m7 m8 m9; have e4 := HG4.out.dst.cell 4; (try simp only [List.getElem?_cons_zero, List.getElem?_cons_succ] at e4); have e8 := HG4.out.dst.lt; have e9 := HG4.out.dst.frozens)
            go_roundg k
            case measure => omega
            case rel => exact ⟨_, _, _, by go_num, HG4.out.put hxp 4 _, by have := HXL.out; rw [List.length_append, List.length_singleton]; omega, HFX.out⟩
          · have hFx := HFO.out
            rw [foldR_bad] at hFx
            have HFX := Lib.hid hFx
            clear hFx
            go_wp2_with fail
            go_meet
            exact ⟨_, by rw [← HFX.out]; exact HG.out⟩
    case rest =>
      obtain ⟨v0, hg⟩ := hcut
      have HGC := Lib.hid hg
      clear hg
      obtain ⟨B0, q0, rfl, _⟩ := own_shape HGC.out.r0
      have HSC := Lib.hid HGC.out.sc
      go_upto_block 2 with (go_at_call 73; go_loud (refine (manyT_any (w.heap.size + 1) w.heap.size F0.1 4096 _ HSC.out HPP.out (by omega)).mono ?_); rintro e w7 ⟨rfl, hs, hf⟩; rw [HV1.out.1]; rw [← H_m1.out] at hs; have HG1 := Lib.hid (HGC.out.round hxp ((FrN.refl _ _).call hf) hs); clear hs hf)
      clear HGC HSC
      go_cut [10] (fun s8 wx => GSOut (fun v s xs wr => GS w xb [.int .i64 a.2, .int .i64 b.2, .int .i64 cc.2, .int .i64 d.2, (.slice B0 F0.2.length q0), v, nilV, nilV] (.slice B0 F0.2.length q0) v nilV nilV F0.2 xs [] [] s wr) F1 wx)
      case first =>
        obtain ⟨iT, hiT, hzT, hsT, hbT⟩ := info_parts (show (Try.prog.info? T1).map (fun i => (i.zero, i.size, i.bytes)) = some (some (.agg #[.string ByteArray.empty, .int .i64 0]), 2, 24) by kernel_rfl)
        go_wp2_with fail
        go_loopg [10] N1 (fun g v8 wr => GSRel condS (fun v s xs wr => GS w xb [.int .i64 a.2, .int .i64 b.2, .int .i64 cc.2, .int .i64 d.2, (.slice B0 F0.2.length q0), v, nilV, nilV] (.slice B0 F0.2.length q0) v nilV nilV F0.2 xs [] [] s wr) N1 F1 g v8 wr)
        case atStart => exact ⟨nilV, m1, [], rfl, HG1.out, by simp, H_F1.out.symm⟩
        case round =>
          clear HG1
          obtain ⟨v, ⟨bi, li⟩, xs, rfl, hg, hxl, hfo⟩ := hrel
          have HG := Lib.hid hg
          have HXL := Lib.hid hxl
          have HFO := Lib.hid hfo
          clear hg hxl hfo
          have hN9 : (gk : Int) ≤ 4096 := by have := HV1.out.2; have := HXL.out; omega
          obtain ⟨A4, c4, rfl, _⟩ := own_shape HG.out.r1
          have HSC := Lib.hid HG.out.sc
          obtain ⟨As, cs, es, hBs, _⟩ := HSC.out
          have c0 := hBs.cell 0
          have c1 := hBs.cell 1
          have c2 := hBs.lt
          simp only [List.getElem?_cons_zero, List.getElem?_cons_succ] at c0 c1
          clear hBs
          rcases Nat.eq_zero_or_pos gk with h0 | h0
          · subst h0
            have hFx := HFO.out
            rw [foldR_zero] at hFx
            have HFX := Lib.hid hFx
            clear hFx
            cases bi
            all_goals
              go_wp2_with fail
              go_meet
              exact ⟨_, by rw [← HFX.out]; exact HG.out⟩
          · obtain ⟨k, rfl⟩ : ∃ k, gk = k + 1 := ⟨gk - 1, by omega⟩
            have hk0 : (0 : Int) ≤ (k : Int) := by omega
            cases bi
            · have hFx := HFO.out
              rw [foldR_succ] at hFx
              have HFX := Lib.hid hFx
              clear hFx
              obtain ⟨y0, h_y0⟩ : ∃ x, x = textS (false, li) ⟨#[]⟩ 255 := ⟨_, rfl⟩
              have H_y0 := Lib.hid h_y0
              obtain ⟨y1, h_y1⟩ : ∃ x, x = numS y0.1 0 := ⟨_, rfl⟩
              have H_y1 := Lib.hid h_y1
              have HPT : Hid (condS (false, li) = (y1.1, ⟨y0.2, y1.2⟩)) := Lib.hid (by unfold condS; simp only; rw [← h_y0, ← h_y1])
              clear h_y0 h_y1
              rw [HPT.out] at HFX
              obtain ⟨y, hy⟩ : ∃ y : CondS, y = ⟨y0.2, y1.2⟩ := ⟨_, rfl⟩
              rw [← hy] at HFX
              have HY := Lib.hid hy
              clear hy
              go_upto_region 20 with (first
                | (have _t := HR0; (try clear j0_ j1_ j2_); go_at_call 71; go_loud (refine (numT_any (w.heap.size + 1) w.heap.size y0.1 _ (HS_y0.out.fr0 ((Fr.refl No x0).alloc (Obj.cells #[.string y0.2, .int .i64 0] T1))) HPP.out).mono ?_); rintro e x1 ⟨rfl, hs, hf⟩; rw [← H_y1.out] at hs ⊢; have HS_y1 := Lib.hid hs; have HR1 := Lib.hid (FrN.call (HR0.out.new (Obj.cells #[.string y0.2, .int .i64 0] T1)) hf); have HJ1 := Lib.hid ((Blk.new x0 T1 [.string y0.2, .int .i64 0]).fr hf (by have := HS_y0.out.lt; omega)); have j0_ := HJ1.out.lt; have j1_ := HJ1.out.frozens; have j2_ := HJ1.out.cell 1; (try simp only [List.getElem?_cons_zero, List.getElem?_cons_succ] at j2_); clear hs hf)
                | (go_at_call 72; go_loud (refine (textT_any (w.heap.size + 1) w.heap.size (false, li) 255 _ HSC.out HPP.out (by omega)).mono ?_); rintro e x0 ⟨rfl, hs, hf⟩; rw [← H_y0.out] at hs ⊢; have HS_y0 := Lib.hid hs; have HR0 := Lib.hid ((FrN.refl (w.heap.size + 1) wr).call hf); clear hs hf))
              have HG2 := Lib.hid (HG.out.round hxp (FrN.put HR1.out (show wr.heap.size ≤ x0.heap.size from HR0.out.size) 1 (.int .i64 y1.2)) (ScanAt.far HS_y1.out (show w.heap.size + 1 < x0.heap.size from HS_y0.out.lt) 1 (.int .i64 y1.2)))
              have HJB : Hid (Blk (x1.setCell ⟨x0.heap.size, 1, none⟩ (.int .i64 y1.2)) x0.heap.size T1 y.vals) := Lib.hid (by rw [HY.out]; exact (HJ1.out.set_ 1 (.int .i64 y1.2)))
              clear HG HSC HS_y0 HS_y1 HR0 HR1 HJ1
              (try clear j0_ j1_ j2_)
              clear c0 c1 c2
              generalize x1.setCell ⟨x0.heap.size, 1, none⟩ (.int .i64 y1.2) = W at HG2 HJB ⊢
              have e4 := HG2.out.dst.cell 4
              have e5 := HG2.out.dst.cell 5
              have e6 := HG2.out.dst.cell 6
              have e7 := HG2.out.dst.cell 7
              have e8 := HG2.out.dst.lt
              have e9 := HG2.out.dst.frozens
              simp only [List.getElem?_cons_zero, List.getElem?_cons_succ] at e4 e5 e6 e7
              have m0 := HJB.out.cell 0
              have m1 := HJB.out.cell 1
              have mL := HJB.out.lt
              simp only [List.getElem?_cons_zero, List.getElem?_cons_succ] at m0 m1
              go_wp2_with (at_builtin; go_loud (refine wpList_append_owned' (by rfl) (.tmp 108) (.tmp 110) 58 (by rfl) w.heap.size T1 iT _ 2 24 Try.underlying58 hiT hzT hsT hbT rfl (by omega) (.slice A4 xs.length c4) xs.length (xs.flatMap CondS.vals) (by rfl) (own_fr0 HG2.out.r1 ((Fr.refl No W).alloc (Obj.cells y.vals.toArray T1))) (some ⟨W.heap.size, 0, none⟩) 1 1 T1 y.vals (by rfl) (Sl.of_new W T1 2 1 y.vals.toArray y.vals rfl rfl) (List.all_eq_true.1 (by rfl)) (by have := HXL.out; have := HV1.out.2; simp only [maxLen]; omega) (by have := HXL.out; have := HV1.out.2; omega) (Nat.le_trans HG2.out.fr.size (by simp)) ?_); intro v4 w4 ho hgr hat; have HG4 := Lib.hid ((HG2.out.fr0 ((Fr.refl No W).alloc (Obj.cells y.vals.toArray T1))).grow1 ho hgr); obtain ⟨A6, c6, rfl, _⟩ := own_shape ho; clear ho hgr hat e4 e5 e6 e7 e8 e9 mL m0 m1; have e4 := HG4.out.dst.cell 5; (try simp only [List.getElem?_cons_zero, List.getElem?_cons_succ] at e4); have e8 := HG4.out.dst.lt; have e9 := HG4.out.dst.frozens)
              go_roundg k
              case measure => omega
              case rel => exact ⟨_, _, _, by go_num, HG4.out.put hxp 5 _, by have := HXL.out; rw [List.length_append, List.length_singleton]; omega, HFX.out⟩
            · have hFx := HFO.out
              rw [foldR_bad] at hFx
              have HFX := Lib.hid hFx
              clear hFx
              go_wp2_with fail
              go_meet
              exact ⟨_, by rw [← HFX.out]; exact HG.out⟩
      case rest =>
        obtain ⟨v1, hg⟩ := hcut
        have HGC := Lib.hid hg
        clear hg
        obtain ⟨B1, q1, rfl, _⟩ := own_shape HGC.out.r1
        have HSC := Lib.hid HGC.out.sc
        go_upto_block 4 with (go_at_call 73; go_loud (refine (manyT_any (w.heap.size + 1) w.heap.size F1.1 4096 _ HSC.out HPP.out (by omega)).mono ?_); rintro e w7 ⟨rfl, hs, hf⟩; rw [HV2.out.1]; rw [← H_m2.out] at hs; have HG2 := Lib.hid (HGC.out.round hxp ((FrN.refl _ _).call hf) hs); clear hs hf)
        clear HGC HSC
        go_cut [12] (fun s8 wx => GSOut (fun v s xs wr => GS w xb [.int .i64 a.2, .int .i64 b.2, .int .i64 cc.2, .int .i64 d.2, (.slice B0 F0.2.length q0), (.slice B1 F1.2.length q1), v, nilV] (.slice B0 F0.2.length q0) (.slice B1 F1.2.length q1) v nilV F0.2 F1.2 xs [] s wr) F2 wx)
        case first =>
          obtain ⟨iT, hiT, hzT, hsT, hbT⟩ := info_parts (show (Try.prog.info? T2).map (fun i => (i.zero, i.size, i.bytes)) = some (some (.agg #[.string ByteArray.empty, .int .i64 0, .bool false]), 3, 32) by kernel_rfl)
          go_wp2_with fail
          go_loopg [12] N2 (fun g v8 wr => GSRel resS (fun v s xs wr => GS w xb [.int .i64 a.2, .int .i64 b.2, .int .i64 cc.2, .int .i64 d.2, (.slice B0 F0.2.length q0), (.slice B1 F1.2.length q1), v, nilV] (.slice B0 F0.2.length q0) (.slice B1 F1.2.length q1) v nilV F0.2 F1.2 xs [] s wr) N2 F2 g v8 wr)
          case atStart => exact ⟨nilV, m2, [], rfl, HG2.out, by simp, H_F2.out.symm⟩
          case round =>
            clear HG2
            obtain ⟨v, ⟨bi, li⟩, xs, rfl, hg, hxl, hfo⟩ := hrel
            have HG := Lib.hid hg
            have HXL := Lib.hid hxl
            have HFO := Lib.hid hfo
            clear hg hxl hfo
            have hN9 : (gk : Int) ≤ 4096 := by have := HV2.out.2; have := HXL.out; omega
            obtain ⟨A4, c4, rfl, _⟩ := own_shape HG.out.r2
            have HSC := Lib.hid HG.out.sc
            obtain ⟨As, cs, es, hBs, _⟩ := HSC.out
            have c0 := hBs.cell 0
            have c1 := hBs.cell 1
            have c2 := hBs.lt
            simp only [List.getElem?_cons_zero, List.getElem?_cons_succ] at c0 c1
            clear hBs
            rcases Nat.eq_zero_or_pos gk with h0 | h0
            · subst h0
              have hFx := HFO.out
              rw [foldR_zero] at hFx
              have HFX := Lib.hid hFx
              clear hFx
              cases bi
              all_goals
                go_wp2_with fail
                go_meet
                exact ⟨_, by rw [← HFX.out]; exact HG.out⟩
            · obtain ⟨k, rfl⟩ : ∃ k, gk = k + 1 := ⟨gk - 1, by omega⟩
              have hk0 : (0 : Int) ≤ (k : Int) := by omega
              cases bi
              · have hFx := HFO.out
                rw [foldR_succ] at hFx
                have HFX := Lib.hid hFx
                clear hFx
                obtain ⟨y0, h_y0⟩ : ∃ x, x = textS (false, li) ⟨#[]⟩ 255 := ⟨_, rfl⟩
                have H_y0 := Lib.hid h_y0
                obtain ⟨y1, h_y1⟩ : ∃ x, x = numS y0.1 0 := ⟨_, rfl⟩
                have H_y1 := Lib.hid h_y1
                obtain ⟨y2, h_y2⟩ : ∃ x, x = truthS y1.1 false := ⟨_, rfl⟩
                have H_y2 := Lib.hid h_y2
                have HPT : Hid (resS (false, li) = (y2.1, ⟨y0.2, y1.2, y2.2⟩)) := Lib.hid (by unfold resS; simp only; rw [← h_y0, ← h_y1, ← h_y2])
                clear h_y0 h_y1 h_y2
                rw [HPT.out] at HFX
                obtain ⟨y, hy⟩ : ∃ y : ResS, y = ⟨y0.2, y1.2, y2.2⟩ := ⟨_, rfl⟩
                rw [← hy] at HFX
                have HY := Lib.hid hy
                clear hy
                go_upto_region 27 with (first
                  | (have _t := HJ1; (try clear j0_ j1_ j2_); go_at_call 74; go_loud (refine (truthT_any (w.heap.size + 1) w.heap.size y1.1 _ (ScanAt.far HS_y1.out (show w.heap.size + 1 < x0.heap.size from HS_y0.out.lt) 1 (.int .i64 y1.2)) HPP.out).mono ?_); rintro e x2 ⟨rfl, hs, hf⟩; rw [← H_y2.out] at hs ⊢; have HS_y2 := Lib.hid hs; have HR2 := Lib.hid (FrN.call (FrN.put HR1.out (show wr.heap.size ≤ x0.heap.size from HR0.out.size) 1 (.int .i64 y1.2)) hf); have HJ2 := Lib.hid ((HJ1.out.set_ 1 (.int .i64 y1.2)).fr hf (by have := HS_y0.out.lt; omega)); have j0_ := HJ2.out.lt; have j1_ := HJ2.out.frozens; have j2_ := HJ2.out.cell 2; (try simp only [List.getElem?_cons_zero, List.getElem?_cons_succ] at j2_); clear hs hf)
                  | (have _t := HR0; (try clear j0_ j1_ j2_); go_at_call 71; go_loud (refine (numT_any (w.heap.size + 1) w.heap.size y0.1 _ (HS_y0.out.fr0 ((Fr.refl No x0).alloc (Obj.cells #[.string y0.2, .int .i64 0, .bool false] T2))) HPP.out).mono ?_); rintro e x1 ⟨rfl, hs, hf⟩; rw [← H_y1.out] at hs ⊢; have HS_y1 := Lib.hid hs; have HR1 := Lib.hid (FrN.call (HR0.out.new (Obj.cells #[.string y0.2, .int .i64 0, .bool false] T2)) hf); have HJ1 := Lib.hid ((Blk.new x0 T2 [.string y0.2, .int .i64 0, .bool false]).fr hf (by have := HS_y0.out.lt; omega)); have j0_ := HJ1.out.lt; have j1_ := HJ1.out.frozens; have j2_ := HJ1.out.cell 1; (try simp only [List.getElem?_cons_zero, List.getElem?_cons_succ] at j2_); clear hs hf)
                  | (go_at_call 72; go_loud (refine (textT_any (w.heap.size + 1) w.heap.size (false, li) 255 _ HSC.out HPP.out (by omega)).mono ?_); rintro e x0 ⟨rfl, hs, hf⟩; rw [← H_y0.out] at hs ⊢; have HS_y0 := Lib.hid hs; have HR0 := Lib.hid ((FrN.refl (w.heap.size + 1) wr).call hf); clear hs hf))
                have HG2 := Lib.hid (HG.out.round hxp (FrN.put HR2.out (show wr.heap.size ≤ x0.heap.size from HR0.out.size) 2 (.bool y2.2)) (ScanAt.far HS_y2.out (show w.heap.size + 1 < x0.heap.size from HS_y0.out.lt) 2 (.bool y2.2)))
                have HJB : Hid (Blk (x2.setCell ⟨x0.heap.size, 2, none⟩ (.bool y2.2)) x0.heap.size T2 y.vals) := Lib.hid (by rw [HY.out]; exact (HJ2.out.set_ 2 (.bool y2.2)))
                clear HG HSC HS_y0 HS_y1 HS_y2 HR0 HR1 HR2 HJ1 HJ2
                (try clear j0_ j1_ j2_)
                clear c0 c1 c2
                generalize x2.setCell ⟨x0.heap.size, 2, none⟩ (.bool y2.2) = W at HG2 HJB ⊢
                have e4 := HG2.out.dst.cell 4
                have e5 := HG2.out.dst.cell 5
                have e6 := HG2.out.dst.cell 6
                have e7 := HG2.out.dst.cell 7
                have e8 := HG2.out.dst.lt
                have e9 := HG2.out.dst.frozens
                simp only [List.getElem?_cons_zero, List.getElem?_cons_succ] at e4 e5 e6 e7
                have m0 := HJB.out.cell 0
                have m1 := HJB.out.cell 1
                have m2 := HJB.out.cell 2
                have mL := HJB.out.lt
                simp only [List.getElem?_cons_zero, List.getElem?_cons_succ] at m0 m1 m2
                go_wp2_with (at_builtin; go_loud (refine wpList_append_owned' (by rfl) (.tmp 136) (.tmp 138) 59 (by rfl) w.heap.size T2 iT _ 3 32 Try.underlying59 hiT hzT hsT hbT rfl (by omega) (.slice A4 xs.length c4) xs.length (xs.flatMap ResS.vals) (by rfl) (own_fr0 HG2.out.r2 ((Fr.refl No W).alloc (Obj.cells y.vals.toArray T2))) (some ⟨W.heap.size, 0, none⟩) 1 1 T2 y.vals (by rfl) (Sl.of_new W T2 3 1 y.vals.toArray y.vals rfl rfl) (List.all_eq_true.1 (by rfl)) (by have := HXL.out; have := HV2.out.2; simp only [maxLen]; omega) (by have := HXL.out; have := HV2.out.2; omega) (Nat.le_trans HG2.out.fr.size (by simp)) ?_); intro v4 w4 ho hgr hat; have HG4 := Lib.hid ((HG2.out.fr0 ((Fr.refl No W).alloc (Obj.cells y.vals.toArray T2))).grow2 ho hgr); obtain ⟨A6, c6, rfl, _⟩ := own_shape ho; clear ho hgr hat e4 e5 e6 e7 e8 e9 mL m0 m1 m2; have e4 := HG4.out.dst.cell 6; (try simp only [List.getElem?_cons_zero, List.getElem?_cons_succ] at e4); have e8 := HG4.out.dst.lt; have e9 := HG4.out.dst.frozens)
                go_roundg k
                case measure => omega
                case rel => exact ⟨_, _, _, by go_num, HG4.out.put hxp 6 _, by have := HXL.out; rw [List.length_append, List.length_singleton]; omega, HFX.out⟩
              · have hFx := HFO.out
                rw [foldR_bad] at hFx
                have HFX := Lib.hid hFx
                clear hFx
                go_wp2_with fail
                go_meet
                exact ⟨_, by rw [← HFX.out]; exact HG.out⟩
        case rest =>
          obtain ⟨v2, hg⟩ := hcut
          have HGC := Lib.hid hg
          clear hg
          obtain ⟨B2, q2, rfl, _⟩ := own_shape HGC.out.r2
          have HSC := Lib.hid HGC.out.sc
          go_upto_block 6 with (go_at_call 73; go_loud (refine (manyT_any (w.heap.size + 1) w.heap.size F2.1 4096 _ HSC.out HPP.out (by omega)).mono ?_); rintro e w7 ⟨rfl, hs, hf⟩; rw [HV3.out.1]; rw [← H_m3.out] at hs; have HG3 := Lib.hid (HGC.out.round hxp ((FrN.refl _ _).call hf) hs); clear hs hf)
          clear HGC HSC
          go_cut [14] (fun s8 wx => GSOut (fun v s xs wr => GS w xb [.int .i64 a.2, .int .i64 b.2, .int .i64 cc.2, .int .i64 d.2, (.slice B0 F0.2.length q0), (.slice B1 F1.2.length q1), (.slice B2 F2.2.length q2), v] (.slice B0 F0.2.length q0) (.slice B1 F1.2.length q1) (.slice B2 F2.2.length q2) v F0.2 F1.2 F2.2 xs s wr) F3 wx)
          case first =>
            obtain ⟨iT, hiT, hzT, hsT, hbT⟩ := info_parts (show (Try.prog.info? T3).map (fun i => (i.zero, i.size, i.bytes)) = some (some (.agg #[.int .i64 0, .string ByteArray.empty, .int .i64 0, .int .i64 0]), 4, 40) by kernel_rfl)
            go_wp2_with fail
            go_loopg [14] N3 (fun g v8 wr => GSRel heldS (fun v s xs wr => GS w xb [.int .i64 a.2, .int .i64 b.2, .int .i64 cc.2, .int .i64 d.2, (.slice B0 F0.2.length q0), (.slice B1 F1.2.length q1), (.slice B2 F2.2.length q2), v] (.slice B0 F0.2.length q0) (.slice B1 F1.2.length q1) (.slice B2 F2.2.length q2) v F0.2 F1.2 F2.2 xs s wr) N3 F3 g v8 wr)
            case atStart => exact ⟨nilV, m3, [], rfl, HG3.out, by simp, H_F3.out.symm⟩
            case round =>
              clear HG3
              obtain ⟨v, ⟨bi, li⟩, xs, rfl, hg, hxl, hfo⟩ := hrel
              have HG := Lib.hid hg
              have HXL := Lib.hid hxl
              have HFO := Lib.hid hfo
              clear hg hxl hfo
              have hN9 : (gk : Int) ≤ 4096 := by have := HV3.out.2; have := HXL.out; omega
              obtain ⟨A4, c4, rfl, _⟩ := own_shape HG.out.r3
              have HSC := Lib.hid HG.out.sc
              obtain ⟨As, cs, es, hBs, _⟩ := HSC.out
              have c0 := hBs.cell 0
              have c1 := hBs.cell 1
              have c2 := hBs.lt
              simp only [List.getElem?_cons_zero, List.getElem?_cons_succ] at c0 c1
              clear hBs
              rcases Nat.eq_zero_or_pos gk with h0 | h0
              · subst h0
                have hFx := HFO.out
                rw [foldR_zero] at hFx
                have HFX := Lib.hid hFx
                clear hFx
                cases bi
                all_goals
                  go_wp2_with fail
                  go_meet
                  exact ⟨_, by rw [← HFX.out]; exact HG.out⟩
              · obtain ⟨k, rfl⟩ : ∃ k, gk = k + 1 := ⟨gk - 1, by omega⟩
                have hk0 : (0 : Int) ≤ (k : Int) := by omega
                cases bi
                · have hFx := HFO.out
                  rw [foldR_succ] at hFx
                  have HFX := Lib.hid hFx
                  clear hFx
                  obtain ⟨y0, h_y0⟩ : ∃ x, x = numS (false, li) 0 := ⟨_, rfl⟩
                  have H_y0 := Lib.hid h_y0
                  obtain ⟨y1, h_y1⟩ : ∃ x, x = textS y0.1 ⟨#[]⟩ 255 := ⟨_, rfl⟩
                  have H_y1 := Lib.hid h_y1
                  obtain ⟨y2, h_y2⟩ : ∃ x, x = numS y1.1 0 := ⟨_, rfl⟩
                  have H_y2 := Lib.hid h_y2
                  obtain ⟨y3, h_y3⟩ : ∃ x, x = numS y2.1 0 := ⟨_, rfl⟩
                  have H_y3 := Lib.hid h_y3
                  have HPT : Hid (heldS (false, li) = (y3.1, ⟨y0.2, y1.2, y2.2, y3.2⟩)) := Lib.hid (by unfold heldS; simp only; rw [← h_y0, ← h_y1, ← h_y2, ← h_y3])
                  clear h_y0 h_y1 h_y2 h_y3
                  rw [HPT.out] at HFX
                  obtain ⟨y, hy⟩ : ∃ y : HeldS, y = ⟨y0.2, y1.2, y2.2, y3.2⟩ := ⟨_, rfl⟩
                  rw [← hy] at HFX
                  have HY := Lib.hid hy
                  clear hy
                  go_upto_region 35 with (first
                    | (have _t := HJ2; (try clear j0_ j1_ j2_); go_at_call 70; go_loud (refine (smallT_any (w.heap.size + 1) w.heap.size y2.1 _ (ScanAt.far HS_y2.out (show w.heap.size + 1 < x0.heap.size from HS_y0.out.lt) 2 (.int .i64 y2.2)) HPP.out).mono ?_); rintro e x3 ⟨rfl, hs, hf⟩; rw [← H_y3.out] at hs ⊢; have HS_y3 := Lib.hid hs; have HR3 := Lib.hid (FrN.call (FrN.put HR2.out (show wr.heap.size ≤ x0.heap.size from HR0.out.size) 2 (.int .i64 y2.2)) hf); have HJ3 := Lib.hid ((HJ2.out.set_ 2 (.int .i64 y2.2)).fr hf (by have := HS_y0.out.lt; omega)); have j0_ := HJ3.out.lt; have j1_ := HJ3.out.frozens; have j2_ := HJ3.out.cell 3; (try simp only [List.getElem?_cons_zero, List.getElem?_cons_succ] at j2_); clear hs hf)
                    | (have _t := HJ1; (try clear j0_ j1_ j2_); go_at_call 71; go_loud (refine (numT_any (w.heap.size + 1) w.heap.size y1.1 _ (ScanAt.far HS_y1.out (show w.heap.size + 1 < x0.heap.size from HS_y0.out.lt) 1 (.string y1.2)) HPP.out).mono ?_); rintro e x2 ⟨rfl, hs, hf⟩; rw [← H_y2.out] at hs ⊢; have HS_y2 := Lib.hid hs; have HR2 := Lib.hid (FrN.call (FrN.put HR1.out (show wr.heap.size ≤ x0.heap.size from HR0.out.size) 1 (.string y1.2)) hf); have HJ2 := Lib.hid ((HJ1.out.set_ 1 (.string y1.2)).fr hf (by have := HS_y0.out.lt; omega)); have j0_ := HJ2.out.lt; have j1_ := HJ2.out.frozens; have j2_ := HJ2.out.cell 2; (try simp only [List.getElem?_cons_zero, List.getElem?_cons_succ] at j2_); clear hs hf)
                    | (have _t := HR0; (try clear j0_ j1_ j2_); go_at_call 72; go_loud (refine (textT_any (w.heap.size + 1) w.heap.size y0.1 255 _ (HS_y0.out.fr0 ((Fr.refl No x0).alloc (Obj.cells #[.int .i64 y0.2, .string ⟨#[]⟩, .int .i64 0, .int .i64 0] T3))) HPP.out (by omega)).mono ?_); rintro e x1 ⟨rfl, hs, hf⟩; rw [← H_y1.out] at hs ⊢; have HS_y1 := Lib.hid hs; have HR1 := Lib.hid (FrN.call (HR0.out.new (Obj.cells #[.int .i64 y0.2, .string ⟨#[]⟩, .int .i64 0, .int .i64 0] T3)) hf); have HJ1 := Lib.hid ((Blk.new x0 T3 [.int .i64 y0.2, .string ⟨#[]⟩, .int .i64 0, .int .i64 0]).fr hf (by have := HS_y0.out.lt; omega)); have j0_ := HJ1.out.lt; have j1_ := HJ1.out.frozens; have j2_ := HJ1.out.cell 1; (try simp only [List.getElem?_cons_zero, List.getElem?_cons_succ] at j2_); clear hs hf)
                    | (go_at_call 71; go_loud (refine (numT_any (w.heap.size + 1) w.heap.size (false, li) _ HSC.out HPP.out).mono ?_); rintro e x0 ⟨rfl, hs, hf⟩; rw [← H_y0.out] at hs ⊢; have HS_y0 := Lib.hid hs; have HR0 := Lib.hid ((FrN.refl (w.heap.size + 1) wr).call hf); clear hs hf))
                  have HG2 := Lib.hid (HG.out.round hxp (FrN.put HR3.out (show wr.heap.size ≤ x0.heap.size from HR0.out.size) 3 (.int .i64 y3.2)) (ScanAt.far HS_y3.out (show w.heap.size + 1 < x0.heap.size from HS_y0.out.lt) 3 (.int .i64 y3.2)))
                  have HJB : Hid (Blk (x3.setCell ⟨x0.heap.size, 3, none⟩ (.int .i64 y3.2)) x0.heap.size T3 y.vals) := Lib.hid (by rw [HY.out]; exact (HJ3.out.set_ 3 (.int .i64 y3.2)))
                  clear HG HSC HS_y0 HS_y1 HS_y2 HS_y3 HR0 HR1 HR2 HR3 HJ1 HJ2 HJ3
                  (try clear j0_ j1_ j2_)
                  clear c0 c1 c2
                  generalize x3.setCell ⟨x0.heap.size, 3, none⟩ (.int .i64 y3.2) = W at HG2 HJB ⊢
                  have e4 := HG2.out.dst.cell 4
                  have e5 := HG2.out.dst.cell 5
                  have e6 := HG2.out.dst.cell 6
                  have e7 := HG2.out.dst.cell 7
                  have e8 := HG2.out.dst.lt
                  have e9 := HG2.out.dst.frozens
                  simp only [List.getElem?_cons_zero, List.getElem?_cons_succ] at e4 e5 e6 e7
                  have m0 := HJB.out.cell 0
                  have m1 := HJB.out.cell 1
                  have m2 := HJB.out.cell 2
                  have m3 := HJB.out.cell 3
                  have mL := HJB.out.lt
                  simp only [List.getElem?_cons_zero, List.getElem?_cons_succ] at m0 m1 m2 m3
                  go_wp2_with (at_builtin; go_loud (refine wpList_append_owned' (by rfl) (.tmp 167) (.tmp 169) 60 (by rfl) w.heap.size T3 iT _ 4 40 Try.underlying60 hiT hzT hsT hbT rfl (by omega) (.slice A4 xs.length c4) xs.length (xs.flatMap HeldS.vals) (by rfl) (own_fr0 HG2.out.r3 ((Fr.refl No W).alloc (Obj.cells y.vals.toArray T3))) (some ⟨W.heap.size, 0, none⟩) 1 1 T3 y.vals (by rfl) (Sl.of_new W T3 4 1 y.vals.toArray y.vals rfl rfl) (List.all_eq_true.1 (by rfl)) (by have := HXL.out; have := HV3.out.2; simp only [maxLen]; omega) (by have := HXL.out; have := HV3.out.2; omega) (Nat.le_trans HG2.out.fr.size (by simp)) ?_); intro v4 w4 ho hgr hat; have HG4 := Lib.hid ((HG2.out.fr0 ((Fr.refl No W).alloc (Obj.cells y.vals.toArray T3))).grow3 ho hgr); obtain ⟨A6, c6, rfl, _⟩ := own_shape ho; clear ho hgr hat e4 e5 e6 e7 e8 e9 mL m0 m1 m2 m3; have e4 := HG4.out.dst.cell 7; (try simp only [List.getElem?_cons_zero, List.getElem?_cons_succ] at e4); have e8 := HG4.out.dst.lt; have e9 := HG4.out.dst.frozens)
                  go_roundg k
                  case measure => omega
                  case rel => exact ⟨_, _, _, by go_num, HG4.out.put hxp 7 _, by have := HXL.out; rw [List.length_append, List.length_singleton]; omega, HFX.out⟩
                · have hFx := HFO.out
                  rw [foldR_bad] at hFx
                  have HFX := Lib.hid hFx
                  clear hFx
                  go_wp2_with fail
                  go_meet
                  exact ⟨_, by rw [← HFX.out]; exact HG.out⟩
          case rest =>
            obtain ⟨v3, hg⟩ := hcut
            have HGC := Lib.hid hg
            clear hg
            obtain ⟨B3, q3, rfl, _⟩ := own_shape HGC.out.r3
            have HSC := Lib.hid HGC.out.sc
            obtain ⟨⟨bd3, li3⟩, xs3⟩ := F3
            obtain ⟨As, cs, es, hBs, _⟩ := HSC.out
            have c0 := hBs.cell 0
            have c1 := hBs.cell 1
            have c2 := hBs.lt
            simp only [List.getElem?_cons_zero, List.getElem?_cons_succ] at c0 c1
            clear hBs
            have z8 := HGC.out.out.lt
            have z9 := HGC.out.out.frozens
            obtain ⟨z0, z1, z2, z3, z4, z5, z6, z7⟩ := HGC.out.out.cells8
            obtain ⟨e0, e1, e2, e3, e4, e5, e6, e7⟩ := HGC.out.dst.cells8
            have e8 := HGC.out.dst.lt
            cases bd3
            · cases li3 with
              | nil =>
                have hE := HEE.out
                have HVV := Lib.hid (finSt_yes (show fin E.1 = true by rw [hE]; exact fin_nil))
                have HE2 := Lib.hid hE
                clear hE
                go_wp2
                refine wp_region_o [(0, 0), (1, 1), (2, 0), (3, 3), (4, 0)] (by kernel_rfl) (by kernel_rfl) ?_
                repeat (first
                  | (apply wpO_pure rfl rfl; (focus (intro w'; go_simp; (try rfl); done)); try simp only [Act.put, List.setIfInBounds_toArray, List.set_cons_zero, List.set_cons_succ])
                  | (apply wpO_read rfl rfl; (focus (intro w' hf' hs'; (try simp only [World.size_drew, World.cell?_drew, World.size_alloc, World.size_setCell] at hs'); go_simp; (try rfl); done)); try simp only [Act.put, List.setIfInBounds_toArray, List.set_cons_zero, List.set_cons_succ])
                  | (apply wpO_skip (by decide) rfl rfl; try simp only [Act.put, List.setIfInBounds_toArray, List.set_cons_zero, List.set_cons_succ]))
                refine wpO_loud rfl fun K hK => ?_
                go_simp
                refine hK _ _ ?_
                clear hK K
                repeat (first
                  | (apply wpO_pure rfl rfl; (focus (intro w'; go_simp; (try rfl); done)); try simp only [Act.put, List.setIfInBounds_toArray, List.set_cons_zero, List.set_cons_succ])
                  | (apply wpO_read rfl rfl; (focus (intro w' hf' hs'; (try simp only [World.size_drew, World.cell?_drew, World.size_alloc, World.size_setCell] at hs'); go_simp; (try rfl); done)); try simp only [Act.put, List.setIfInBounds_toArray, List.set_cons_zero, List.set_cons_succ])
                  | (apply wpO_skip (by decide) rfl rfl; try simp only [Act.put, List.setIfInBounds_toArray, List.set_cons_zero, List.set_cons_succ]))
                refine wpO_nil ?_
                go_wp2
                have hS := (Fr.refl (fun k => k = w.heap.size) wc).set8v (g := w.heap.size) (.inl rfl) (.int .i64 a.2) (.int .i64 b.2) (.int .i64 cc.2) (.int .i64 d.2) (.slice B0 F0.2.length q0) (.slice B1 F1.2.length q1) (.slice B2 F2.2.length q2) (.slice B3 xs3.length q3)
                refine bodyPost_ret (rgst_res (x := ⟨a.2, b.2, cc.2, d.2, F0.2, F1.2, F2.2, xs3⟩) (s := t.2) (A0 := B0) (A1 := B1) (A2 := B2) (A3 := B3) (c0 := q0) (c1 := q1) (c2 := q2) (c3 := q3) (e := 0) (HGC.out.out.set8v _ _ _ _ _ _ _ _).drew rfl rfl rfl) rfl ?_
                rw [HVV.out, HE2.out]
                exact ⟨B0, B1, B2, B3, q0, q1, q2, q3, rfl, ⟨(Sl.of_own (own_fr HGC.out.r0 hS (fun k hk e => own_far HGC.out.r0 HGC.out.out (by decide) k hk e))).drew, (Sl.of_own (own_fr HGC.out.r1 hS (fun k hk e => own_far HGC.out.r1 HGC.out.out (by decide) k hk e))).drew, (Sl.of_own (own_fr HGC.out.r2 hS (fun k hk e => own_far HGC.out.r2 HGC.out.out (by decide) k hk e))).drew, (Sl.of_own (own_fr HGC.out.r3 hS (fun k hk e => own_far HGC.out.r3 HGC.out.out (by decide) k hk e))).drew⟩, (HGC.out.fr.set8v (.inr (Nat.le_refl _)) _ _ _ _ _ _ _ _).drew⟩
              | cons b1 l1 =>
                have HVV := Lib.hid (finSt_no (show fin E.1 = false by rw [HEE.out]; exact fin_cons b1 l1))
                obtain ⟨ll, hll⟩ : ∃ ll, ll = (b1 :: l1).length := ⟨_, rfl⟩
                have hl0 : (0 : Int) < (ll : Int) := by rw [hll]; simp
                rw [← hll] at c0
                clear hll
                go_wp2
                refine bodyPost_ret (rgst_res (x := StS.zero) (s := ⟨#[]⟩) (A0 := none) (A1 := none) (A2 := none) (A3 := none) (c0 := 0) (c1 := 0) (c2 := 0) (c3 := 0) (e := 11) (HGC.out.out.set8v (.int .i64 0) (.int .i64 0) (.int .i64 0) (.int .i64 0) nilV nilV nilV nilV) rfl rfl rfl) rfl ?_
                rw [HVV.out]
                exact ⟨none, none, none, none, 0, 0, 0, 0, rfl, ⟨Sl.nil _ _ _ _, Sl.nil _ _ _ _, Sl.nil _ _ _ _, Sl.nil _ _ _ _⟩, HGC.out.fr.set8v (.inr (Nat.le_refl _)) _ _ _ _ _ _ _ _⟩
            · have HVV := Lib.hid (finSt_no (show fin E.1 = false by rw [HEE.out]; exact fin_true li3))
              go_wp2
              refine bodyPost_ret (rgst_res (x := StS.zero) (s := ⟨#[]⟩) (A0 := none) (A1 := none) (A2 := none) (A3 := none) (c0 := 0) (c1 := 0) (c2 := 0) (c3 := 0) (e := 11) (HGC.out.out.set8v (.int .i64 0) (.int .i64 0) (.int .i64 0) (.int .i64 0) nilV nilV nilV nilV) rfl rfl rfl) rfl ?_
              rw [HVV.out]
              exact ⟨none, none, none, none, 0, 0, 0, 0, rfl, ⟨Sl.nil _ _ _ _, Sl.nil _ _ _ _, Sl.nil _ _ _ _, Sl.nil _ _ _ _⟩, HGC.out.fr.set8v (.inr (Nat.le_refl _)) _ _ _ _ _ _ _ _⟩
end Go.Proofs.Ytegogggemmcgdaa

/- codec, the plain law: what is read determines the bytes. -/
namespace Go.Proofs.Ytegogggemmcgdaa
open Go Go.RowKit Go.Proofs

section
variable {α β : Type}
/-- what is read stands for just these bytes -/
structure Det (rs : RS → RS × α) (P : Bs → α → Prop) : Prop where
  bad : ∀ l, (rs (true, l)).1.1 = true
  back : ∀ a r y, rs (false, a) = ((false, r), y) → ∃ p, a = p ++ r ∧ P p y
theorem Det.bind {rs : RS → RS × α} {P : Bs → α → Prop} {k : α → RS → RS × β} {Q : α → Bs → β → Prop} (h : Det rs P) (hk : ∀ x, Det (k x) (Q x)) : Det (bindS rs k) (fun p z => ∃ x p1 p2, p = p1 ++ p2 ∧ P p1 x ∧ Q x p2 z) := by
  refine ⟨fun l => ?_, fun a r y e => ?_⟩
  · unfold bindS
    have h1 := h.bad l
    generalize rs (true, l) = x at h1 ⊢
    obtain ⟨⟨b, t⟩, v⟩ := x
    simp only at h1
    subst h1
    exact (hk v).bad t
  · unfold bindS at e
    have h1 := h.back a
    generalize rs (false, a) = x at e h1
    obtain ⟨⟨b, t⟩, v⟩ := x
    cases b
    · obtain ⟨p1, e1, q1⟩ := h1 t v rfl
      obtain ⟨p2, e2, q2⟩ := (hk v).back t r y e
      exact ⟨p1 ++ p2, by rw [e1, e2, List.append_assoc], v, p1, p2, rfl, q1, q2⟩
    · have := (hk v).bad t
      simp only at e
      rw [e] at this
      cases this
theorem Det.pure (v : α) : Det (fun s => (s, v)) (fun p z => p = [] ∧ z = v) := ⟨fun _ => rfl, fun a r y e => by
  injection e with e1 e2
  injection e1 with _ e1
  subst e1 e2
  exact ⟨[], rfl, rfl, rfl⟩⟩
theorem Det.mono {rs : RS → RS × α} {P Q : Bs → α → Prop} (h : Det rs P) (hq : ∀ p z, P p z → Q p z) : Det rs Q := ⟨h.bad, fun a r y e => by
  obtain ⟨p, e1, h1⟩ := h.back a r y e
  exact ⟨p, e1, hq p y h1⟩⟩
end
theorem wrap_I64 (n : Int) : I64 (IntKind.i64.wrap n) := by
  rw [IntKind.wrap_i64]
  unfold I64
  omega
theorem numS_det (n : Int) : Det (fun s => numS s n) (fun p y => p = leB (u64N y) 8 ∧ I64 y) := by
  refine ⟨(numS_stable n).bad, fun a r y e => ?_⟩
  unfold numS at e
  by_cases h : a.length < 8
  · simp [h] at e
  · simp only [h, decide_false, Bool.or_false, Bool.false_eq_true, if_false] at e
    injection e with e1 e2
    injection e1 with _ e1
    subst e1 e2
    refine ⟨a.take 8, (List.take_append_drop 8 a).symm, ?_, wrap_I64 _⟩
    have hl : (a.take 8).length = 8 := by rw [List.length_take]; omega
    have hlt : leN (a.take 8) < 18446744073709551616 := by have := leN_lt (a.take 8); rw [hl] at this; omega
    rw [u64N_i64N _ hlt]
    have := leB_leN (a.take 8)
    rw [hl] at this
    exact this.symm
theorem truthS_det (is : Bool) : Det (fun s => truthS s is) (fun p y => p = bitB y) := by
  refine ⟨(truthS_stable is).bad, fun a r y e => ?_⟩
  cases a with
  | nil => simp [truthS] at e
  | cons b t =>
    simp only [truthS] at e
    by_cases h : 1 < b.toNat
    · simp [h] at e
    · simp only [h, decide_false, Bool.or_false, Bool.false_eq_true, if_false] at e
      injection e with e1 e2
      injection e1 with _ e1
      subst e1 e2
      refine ⟨[b], rfl, ?_⟩
      have hb : b = 0 ∨ b = 1 := by
        rcases (show b.toNat = 0 ∨ b.toNat = 1 by omega) with h0 | h0
        · exact .inl (UInt8.toNat_inj.1 h0)
        · exact .inr (UInt8.toNat_inj.1 h0)
      rcases hb with rfl | rfl <;> rfl
theorem manyS_det (n most : Int) : Det (fun s => manyS s n most) (fun p y => p = leB (u64N y) 8 ∧ I64 y ∧ 0 ≤ y ∧ y ≤ most) := by
  refine ⟨(manyS_stable n most).bad, fun a r y e => ?_⟩
  have h := (numS_det n).back a
  unfold manyS at e
  try simp only at h e
  generalize numS (false, a) n = x at e h
  obtain ⟨⟨b, t⟩, v⟩ := x
  injection e with e1 e2
  injection e1 with e0 e1
  simp only [Bool.or_eq_false_iff, decide_eq_false_iff_not] at e0
  obtain ⟨⟨rfl, e3⟩, e4⟩ := e0
  simp only at e1 e2
  subst e1 e2
  obtain ⟨p, h1, h2, h3⟩ := h t v rfl
  exact ⟨p, h1, h2, h3, by omega, by omega⟩
theorem strB_toList (l : Bs) : (strB l).data.toList = l := rfl
theorem textS_det (str : ByteArray) (most : Int) : Det (fun s => textS s str most) (fun p y => p = textB y ∧ (y.size : Int) ≤ most) := by
  refine ⟨(textS_stable str most).bad, fun a r y e => ?_⟩
  have h := (manyS_det (str.size : Int) most).back a
  unfold textS at e
  try simp only at h e
  generalize manyS (false, a) (str.size : Int) most = x at e h
  obtain ⟨⟨b, t⟩, v⟩ := x
  simp only at e
  cases b
  · obtain ⟨p, h1, h2, h3, h4, h5⟩ := h t v rfl
    by_cases hl : (t.length : Int) < v
    · simp [hl] at e
    · simp only [hl, decide_false, Bool.or_false, Bool.false_eq_true, if_false] at e
      injection e with e1 e2
      injection e1 with _ e1
      subst e1 e2
      have hs : (strB (t.take v.toNat)).size = v.toNat := by rw [strB_size, List.length_take]; omega
      refine ⟨p ++ t.take v.toNat, ?_, ?_, by rw [hs]; omega⟩
      · rw [List.append_assoc, List.take_append_drop]; exact h1
      · rw [textB_eq, strB_toList, hs, h2, show ((v.toNat : Nat) : Int) = v by omega]
  · simp at e
theorem foldR_det {α : Type} {rs : RS → RS × α} {bytes : α → Bs} {good : α → Prop} (h : Det rs (fun p x => p = bytes x ∧ good x)) : ∀ (k : Nat) (acc : List α),
    Det (fun s => foldR rs k s acc) (fun p zs => ∃ xs, zs = acc ++ xs ∧ xs.length = k ∧ p = xs.flatMap bytes ∧ ∀ x ∈ xs, good x)
  | 0, acc => by
    refine ⟨fun l => by simp only [foldR_zero], fun a r y e => ?_⟩
    simp only [foldR_zero] at e
    injection e with e1 e2
    injection e1 with _ e1
    subst e1 e2
    exact ⟨[], rfl, [], by simp, rfl, rfl, by simp⟩
  | k + 1, acc => by
    refine ⟨fun l => by simp only [foldR_bad], fun a r y e => ?_⟩
    have hb := Det.bind h (fun x => foldR_det h k (acc ++ [x]))
    simp only [foldR_succ] at e
    obtain ⟨p, e1, x, p1, p2, rfl, ⟨rfl, hx⟩, xs, rfl, hl, rfl, hg⟩ := hb.back a r y e
    refine ⟨_, e1, x :: xs, by simp, by simp [hl], by simp, ?_⟩
    intro z hz
    rcases List.mem_cons.1 hz with rfl | hz
    · exact hx
    · exact hg z hz
theorem listS_det {α : Type} {rs : RS → RS × α} {bytes : α → Bs} {good : α → Prop} (h : Det rs (fun p x => p = bytes x ∧ good x)) (most : Int) :
    Det (fun s => listS rs s most) (fun p xs => p = leB (u64N xs.length) 8 ++ xs.flatMap bytes ∧ (∀ x ∈ xs, good x) ∧ (xs.length : Int) ≤ most) := by
  have hb := Det.bind (manyS_det 0 most) (fun n => foldR_det h n.toNat [])
  refine (show Det (fun s => listS rs s most) _ from hb).mono ?_
  rintro p zs ⟨n, p1, p2, rfl, ⟨rfl, h1, h2, h3⟩, xs, rfl, hl, rfl, hg⟩
  try simp only [List.nil_append]
  refine ⟨?_, hg, by omega⟩
  rw [show ((zs.length : Nat) : Int) = n by omega]
theorem evS_det : Det evS (fun p z => p = evTail z ∧ EvOk z ∧ evBad z = false) := by
  have hd := Det.bind (numS_det 0) fun a => Det.bind (numS_det 0) fun b => Det.bind (numS_det 0) fun c => Det.bind (textS_det ⟨#[]⟩ 255) fun d =>
    Det.bind (listS_det (bytes := keepB) (good := I64) (numS_det 0) 255) fun e => Det.pure (EvS.mk a b c d e)
  unfold evS
  refine Det.mono hd ?_
  rintro p z ⟨a, p1, _, rfl, ⟨rfl, ia⟩, b, p2, _, rfl, ⟨rfl, ib⟩, c, p3, _, rfl, ⟨rfl, ic⟩, d, p4, _, rfl, ⟨rfl, id⟩, e, p5, _, rfl, ⟨rfl, ie, il⟩, rfl, rfl⟩
  refine ⟨?_, ⟨ia, ib, ic, ie⟩, ?_⟩
  · unfold evTail
    simp only [List.append_assoc]
  · unfold evBad longB
    simp only [Bool.or_eq_false_iff, decide_eq_false_iff_not]
    omega
theorem jobS_det : Det jobS (fun p z => p = bytesJ z ∧ JOk z) := by
  have hd := Det.bind (numS_det 0) fun a => Det.bind (numS_det 0) fun b => Det.bind (numS_det 0) fun c => Det.bind (numS_det 0) fun d => Det.bind (truthS_det false) fun e => Det.bind (truthS_det false) fun f =>
    Det.bind (numS_det 0) fun g => Det.bind (numS_det 0) fun h => Det.bind (numS_det 0) fun i => Det.bind (numS_det 0) fun j => Det.pure (JSt.mk a b c d e f g h i j)
  unfold jobS
  refine Det.mono hd ?_
  rintro p z ⟨a, p1, _, rfl, ⟨rfl, ia⟩, b, p2, _, rfl, ⟨rfl, ib⟩, c, p3, _, rfl, ⟨rfl, ic⟩, d, p4, _, rfl, ⟨rfl, id⟩, e, p5, _, rfl, rfl, f, p6, _, rfl, rfl, g, p7, _, rfl, ⟨rfl, ig⟩, h, p8, _, rfl, ⟨rfl, ih⟩, i, p9, _, rfl, ⟨rfl, ii⟩, j, p10, _, rfl, ⟨rfl, ij⟩, rfl, rfl⟩
  refine ⟨?_, ⟨ia, ib, ic, id, ig, ih, ii, ij⟩⟩
  unfold bytesJ
  simp only [numB_cons, numB_nil, List.append_assoc, List.append_nil, List.nil_append]
theorem condS_det : Det condS (fun p z => p = bytesC z ∧ (I64 z.day ∧ z.name.size ≤ 255)) := by
  have hd := Det.bind (textS_det ⟨#[]⟩ 255) fun a => Det.bind (numS_det 0) fun b => Det.pure (CondS.mk a b)
  unfold condS
  refine Det.mono hd ?_
  rintro p z ⟨a, p1, _, rfl, ⟨rfl, ia⟩, b, p2, _, rfl, ⟨rfl, ib⟩, rfl, rfl⟩
  exact ⟨by unfold bytesC; simp, ib, by simp only; omega⟩
theorem resS_det : Det resS (fun p z => p = bytesR z ∧ (I64 z.units ∧ z.name.size ≤ 255)) := by
  have hd := Det.bind (textS_det ⟨#[]⟩ 255) fun a => Det.bind (numS_det 0) fun b => Det.bind (truthS_det false) fun c => Det.pure (ResS.mk a b c)
  unfold resS
  refine Det.mono hd ?_
  rintro p z ⟨a, p1, _, rfl, ⟨rfl, ia⟩, b, p2, _, rfl, ⟨rfl, ib⟩, c, p3, _, rfl, rfl, rfl, rfl⟩
  exact ⟨by unfold bytesR; simp, ib, by simp only; omega⟩
theorem heldS_det : Det heldS (fun p z => p = bytesH z ∧ (HOk z ∧ z.name.size ≤ 255)) := by
  have hd := Det.bind (numS_det 0) fun a => Det.bind (textS_det ⟨#[]⟩ 255) fun b => Det.bind (numS_det 0) fun c => Det.bind (numS_det 0) fun d => Det.pure (HeldS.mk a b c d)
  unfold heldS
  refine Det.mono hd ?_
  rintro p z ⟨a, p1, _, rfl, ⟨rfl, ia⟩, b, p2, _, rfl, ⟨rfl, ib⟩, c, p3, _, rfl, ⟨rfl, ic⟩, d, p4, _, rfl, ⟨rfl, id⟩, rfl, rfl⟩
  exact ⟨by unfold bytesH; simp, ⟨ia, ic, id⟩, by simp only; omega⟩
theorem stS_det : Det stS (fun p z => p = stTail z.1 z.2 ∧ StI z.2 ∧ largeB z.1 z.2 = false) := by
  have hd := Det.bind (textS_det ⟨#[]⟩ 8192) fun t => Det.bind (numS_det 0) fun a => Det.bind (numS_det 0) fun b => Det.bind (numS_det 0) fun c => Det.bind (numS_det 0) fun d =>
    Det.bind (listS_det jobS_det 4096) fun e => Det.bind (listS_det condS_det 4096) fun f => Det.bind (listS_det resS_det 4096) fun g => Det.bind (listS_det heldS_det 4096) fun h =>
      Det.pure (t, StS.mk a b c d e f g h)
  unfold stS
  refine Det.mono hd ?_
  rintro p z ⟨t, p0, _, rfl, ⟨rfl, it⟩, a, p1, _, rfl, ⟨rfl, ia⟩, b, p2, _, rfl, ⟨rfl, ib⟩, c, p3, _, rfl, ⟨rfl, ic⟩, d, p4, _, rfl, ⟨rfl, id⟩, e, p5, _, rfl, ⟨rfl, ie, le⟩, f, p6, _, rfl, ⟨rfl, jf, lf⟩, g, p7, _, rfl, ⟨rfl, ig, lg⟩, h, p8, _, rfl, ⟨rfl, ih, lh⟩, rfl, rfl⟩
  refine ⟨?_, ⟨ia, ib, ic, id, ie, fun y hy => (jf y hy).1, fun y hy => (ig y hy).1, fun y hy => (ih y hy).1⟩, ?_⟩
  · unfold stTail
    simp only [List.append_assoc]
  · have n1 : f.any badC = false := by
      simp only [List.any_eq_false]
      intro y hy
      have := (jf y hy).2
      simp only [badC, longB, decide_eq_true_eq]; omega
    have n2 : g.any badR = false := by
      simp only [List.any_eq_false]
      intro y hy
      have := (ig y hy).2
      simp only [badR, longB, decide_eq_true_eq]; omega
    have n3 : h.any badH = false := by
      simp only [List.any_eq_false]
      intro y hy
      have := (ih y hy).2
      simp only [badH, longB, decide_eq_true_eq]; omega
    unfold largeB sizeB nameB
    simp only [n1, n2, n3, Bool.or_false, Bool.or_eq_false_iff, decide_eq_false_iff_not]
    omega
/-- both read alike -/
theorem getEv_same (l : Bs) : getEvT l = getEvS l := by
  cases l with
  | nil => rw [getEvS_nil]; rfl
  | cons b0 r =>
    rw [getEvS_cons]
    change finEv (evS (decide (b0 ≠ 225), r)) = _
    by_cases hl : 60000 < r.length + 1
    · have e1 : openS b0 r 225 = (true, r) := by unfold openS; simp [hl]
      rw [e1, fin_bad (evS_stable.bad r)]
      simp only [Bool.false_eq_true, if_false]
      refine finEv_no ?_
      cases hb : decide (b0 ≠ 225)
      · cases hf : fin (evS (false, r)).1 with
        | false => rfl
        | true =>
          have h1 := fin_yes hf
          obtain ⟨p, e2, rfl, _, h3⟩ := evS_det.back r [] (evS (false, r)).2 (by rw [← h1])
          obtain ⟨h4, h5⟩ := evBad_no h3
          have h6 := evTail_length (evS (false, r)).2
          rw [List.append_nil] at e2
          rw [← e2] at h6
          omega
      · exact fin_bad (evS_stable.bad r)
    · have e1 : openS b0 r 225 = (decide (b0 ≠ 225), r) := by unfold openS; simp [hl]
      rw [e1]
      cases hf : fin (evS (decide (b0 ≠ 225), r)).1
      · rw [finEv_no hf]; rfl
      · rw [finEv_yes hf]; rfl
theorem getEv_cases (l : Bs) : ((getEvS l).2 ≠ 0 ∧ (getEvS l).1 = EvS.zero) ∨ ((getEvS l).2 = 0 ∧ evAll (getEvS l).1 = l ∧ evBad (getEvS l).1 = false) := by
  cases l with
  | nil => left; rw [getEvS_nil]; exact ⟨by decide, rfl⟩
  | cons b0 r =>
    rw [getEvS_cons]
    cases hf : fin (evS (openS b0 r 225)).1
    · left; simp only [Bool.false_eq_true, if_false]; exact ⟨by decide, trivial⟩
    · right
      simp only [if_true]
      obtain ⟨b, e, hb⟩ := openS_shape b0 225 r
      have h1 := fin_yes hf
      rw [e] at h1 ⊢
      have hb0 : b0 = 225 := by
        by_cases h : b0 = 225
        · exact h
        · exfalso
          have hbt := hb h
          rw [hbt] at h1
          have := evS_stable.bad r
          rw [h1] at this
          cases this
      cases b
      · obtain ⟨p, e2, rfl, _, h3⟩ := evS_det.back r [] (evS (false, r)).2 (by rw [← h1])
        rw [List.append_nil] at e2
        exact ⟨trivial, by rw [evAll_tail, ← e2, hb0], h3⟩
      · exfalso
        have := evS_stable.bad r
        rw [h1] at this
        cases this
theorem getSt_cases (l : Bs) : ((getStS l).2.2 ≠ 0 ∧ (getStS l).1 = ⟨#[]⟩ ∧ (getStS l).2.1 = StS.zero) ∨ ((getStS l).2.2 = 0 ∧ stAll (getStS l).1 (getStS l).2.1 = l ∧ largeB (getStS l).1 (getStS l).2.1 = false ∧ l.length ≤ 60000) := by
  cases l with
  | nil => left; rw [getStS_nil]; exact ⟨by decide, rfl, rfl⟩
  | cons b0 r =>
    rw [getStS_cons]
    cases hf : fin (stS (openS b0 r 87)).1
    · left; simp only [Bool.false_eq_true, if_false]; exact ⟨by decide, trivial, trivial⟩
    · right
      simp only [if_true]
      have h1 := fin_yes hf
      have ho : openS b0 r 87 = (decide (b0 ≠ 87) || decide (60000 < r.length + 1), r) := by unfold openS; rfl
      rw [ho] at h1 ⊢
      cases hb : (decide (b0 ≠ 87) || decide (60000 < r.length + 1))
      · rw [hb] at h1
        simp only [Bool.or_eq_false_iff, decide_eq_false_iff_not, ne_eq, Decidable.not_not] at hb
        obtain ⟨hb0, hl⟩ := hb
        obtain ⟨p, e2, rfl, _, h3⟩ := stS_det.back r [] (stS (false, r)).2 (by rw [← h1])
        rw [List.append_nil] at e2
        exact ⟨trivial, by rw [stAll_tail, ← e2, hb0], h3, by rw [List.length_cons]; omega⟩
      · exfalso
        rw [hb] at h1
        have := stS_stable.bad r
        rw [h1] at this
        cases this
end Go.Proofs.Ytegogggemmcgdaa

/- the law's taken. -/
namespace Go.Proofs.Ytegogggemmcgdaa
open Go Go.RowKit Go.Proofs

theorem taken_st_res {tmps : Array Value} {w : World} {g : Nat} {x : StS} {A0 A1 A2 A3 : Option Addr} {c0 c1 c2 c3 : Nat} (h : Blk w g 62 (x.cells A0 A1 A2 A3 c0 c1 c2 c3)) (h4 : tmps.getD 2 undef = .pointer (some ⟨g, 0, none⟩)) :
    (results Try.f34 tmps).run Try.prog w = .ok (x.agg A0 A1 A2 A3 c0 c1 c2 c3) w := by
  obtain ⟨r0, r1, r2, r3, r4, r5, r6, r7⟩ := h.cells8
  simp only [Array.getD_eq_getD_getElem?] at h4
  simp [results, Try.results34, go_sem, h4, r0, r1, r2, r3, r4, r5, r6, r7]
theorem taken_st_tys : Tys 67 62 118 131 121 124 := ⟨by decide, by decide, by decide, by decide, by decide, by decide, by decide, by decide, by decide, by decide, by decide, by decide, by decide, by decide, by decide⟩
set_option maxRecDepth 100000 in
set_option maxHeartbeats 4000000 in
theorem taken_st (x : StS) (A0 A1 A2 A3 : Option Addr) (c0 c1 c2 c3 : Nat) (f0 f1 f2 f3 : TypeId) (w : World) (hS : StSl w x A0 A1 A2 A3 f0 f1 f2 f3) (hL : StLen x) :
    Calls Try.prog 34 #[x.agg A0 A1 A2 A3 c0 c1 c2 c3] w fun e w' => ∃ B0 B1 B2 B3 d0 d1 d2 d3, e = .returned (x.agg B0 B1 B2 B3 d0 d1 d2 d3) ∧ StSl w' x B0 B1 B2 B3 118 131 121 124 ∧ Fr No w w' := by
  have HS := Lib.hid hS
  have HL := Lib.hid hL
  have HT := Lib.hid taken_st_tys
  have hj0 : (0 : Int) ≤ (x.jobs.length : Int) := by omega
  have hj1 : (x.jobs.length : Int) ≤ 9223372036854775807 := by have := hL.jobs; omega
  have hr0 : (0 : Int) ≤ (x.res.length : Int) := by omega
  have hr1 : (x.res.length : Int) ≤ 9223372036854775807 := by have := hL.res; omega
  have hh0 : (0 : Int) ≤ (x.held.length : Int) := by omega
  have hh1 : (x.held.length : Int) ≤ 9223372036854775807 := by have := hL.held; omega
  obtain ⟨i0, hi0, hz0, hzs0, hy0⟩ := info_parts (show (Try.prog.info? 118).map (fun i => (i.zero, i.size, i.bytes)) = some (some (.agg #[.int .i64 0, .int .i64 0, .int .i64 0, .int .i64 0, .bool false, .bool false, .int .i64 0, .int .i64 0, .int .i64 0, .int .i64 0]), 10, 72) by kernel_rfl)
  obtain ⟨i1, hi1, hz1, hzs1, hy1⟩ := info_parts (show (Try.prog.info? 131).map (fun i => (i.zero, i.size, i.bytes)) = some (some (.agg #[.string ByteArray.empty, .int .i64 0]), 2, 24) by kernel_rfl)
  obtain ⟨i2, hi2, hz2, hzs2, hy2⟩ := info_parts (show (Try.prog.info? 121).map (fun i => (i.zero, i.size, i.bytes)) = some (some (.agg #[.string ByteArray.empty, .int .i64 0, .bool false]), 3, 32) by kernel_rfl)
  obtain ⟨i3, hi3, hz3, hzs3, hy3⟩ := info_parts (show (Try.prog.info? 124).map (fun i => (i.zero, i.size, i.bytes)) = some (some (.agg #[.int .i64 0, .string ByteArray.empty, .int .i64 0, .int .i64 0]), 4, 40) by kernel_rfl)
  clear hS hL
  obtain ⟨sc, hsc⟩ : ∃ sc, sc = x.cells A0 A1 A2 A3 c0 c1 c2 c3 := ⟨_, rfl⟩
  have HC : Hid (Cp w 67 62 118 131 121 124 w.heap.size (w.heap.size + 1) (w.heap.size + 2) (x.cells A0 A1 A2 A3 c0 c1 c2 c3) (x.nums nilV nilV nilV nilV) nilV nilV nilV nilV [] [] [] [] (((w.alloc (Obj.cells (x.cells A0 A1 A2 A3 c0 c1 c2 c3).toArray 67)).alloc (Obj.cells (zeroSt).toArray 62)).alloc (Obj.cells (x.nums nilV nilV nilV nilV).toArray 62))) := Lib.hid (by
    have b2 := Blk.new (w.alloc (Obj.cells (x.cells A0 A1 A2 A3 c0 c1 c2 c3).toArray 67)) 62 zeroSt
    have b3 := Blk.new ((w.alloc (Obj.cells (x.cells A0 A1 A2 A3 c0 c1 c2 c3).toArray 67)).alloc (Obj.cells (zeroSt).toArray 62)) 62 (x.nums nilV nilV nilV nilV)
    simp only [World.size_alloc] at b2 b3
    exact ⟨World.ownsRow_nil _ _ _ _, World.ownsRow_nil _ _ _ _, World.ownsRow_nil _ _ _ _, World.ownsRow_nil _ _ _ _, ((Blk.new w 67 (x.cells A0 A1 A2 A3 c0 c1 c2 c3)).alloc _).alloc _, b3, b2.alloc _, (((Fr.refl No w).alloc _).alloc _).alloc _, by omega, by omega⟩)
  clear hsc
  go_enter Try.func34, Try.ntmps34
  go_wp2
  go_loopg [4] x.jobs.length (fun g v4 wr => Cp0 w x 67 62 118 131 121 124 w.heap.size (w.heap.size + 1) (w.heap.size + 2) (x.cells A0 A1 A2 A3 c0 c1 c2 c3) g v4 wr)
  case atStart => exact ⟨0, nilV, by omega, rfl, HC.out⟩
  case round =>
    clear HC
    obtain ⟨i, v0, hgi, rfl, hcp⟩ := hrel
    have HC := Lib.hid hcp
    clear hcp
    have hn0 : (0 : Int) ≤ (i : Int) := by omega
    obtain ⟨d0, d1, d2, d3, d4, d5, d6, d7⟩ := HC.out.dst.cells8
    have d8 := HC.out.dst.lt
    have d9 := HC.out.dst.frozens
    have e4 := HC.out.src.cell 4
    have e5 := HC.out.src.cell 5
    have e6 := HC.out.src.cell 6
    have e7 := HC.out.src.cell 7
    have e8 := HC.out.src.lt
    simp only [List.getElem?_cons_zero, List.getElem?_cons_succ] at e4 e5 e6 e7
    by_cases hlt : i < x.jobs.length
    · have hn1 : (i : Int) < (x.jobs.length : Int) := by omega
      obtain ⟨y, hy⟩ : ∃ y, x.jobs[i]? = some y := ⟨_, List.getElem?_eq_getElem hlt⟩
      obtain ⟨ga, oa, rfl, hga, k0, k1, k2, k3, k4, k5, k6, k7, k8, k9⟩ := job_at (HS.out.jobs.fr0 HC.out.fr) hy
      have HX := Lib.hid (show x.jobs.take (i + 1) = x.jobs.take i ++ [y] by rw [List.take_add_one, hy]; rfl)
      have HXL := Lib.hid (show (x.jobs.take i).length = i by rw [List.length_take]; omega)
      obtain ⟨l0, hl0⟩ : ∃ l0, l0 = x.jobs.take i := ⟨_, rfl⟩
      rw [← hl0] at HC HX HXL
      clear hy hl0
      obtain ⟨A, cA, rfl, _⟩ := own_shape HC.out.r0
      have HC2 := Lib.hid ((HC.out.fr0 ((Fr.refl No wr).alloc (Obj.cells y.vals.toArray 119))).fr0 ((Fr.refl No _).alloc (Obj.cells y.vals.toArray 118)))
      have HN2 : Hid (Sl ((wr.alloc (Obj.cells y.vals.toArray 119)).alloc (Obj.cells y.vals.toArray 118)) 118 10 (some ⟨wr.heap.size + 1, 0, none⟩) 1 y.vals) := Lib.hid (by have hsl := Sl.of_new (wr.alloc (Obj.cells y.vals.toArray 119)) 118 10 1 y.vals.toArray y.vals rfl rfl; simpa only [World.size_alloc] using hsl)
      go_wp2_with (at_builtin; go_loud (refine wpList_append_owned' (by rfl) (.tmp 30) (.tmp 52) 57 (by rfl) w.heap.size 118 i0 _ 10 72 Try.underlying57 hi0 hz0 hzs0 hy0 rfl (by omega) (.slice A l0.length cA) l0.length (l0.flatMap JSt.vals) (by rfl) HC2.out.r0 (some ⟨wr.heap.size + 1, 0, none⟩) 1 1 118 y.vals (by rfl) HN2.out (List.all_eq_true.1 (by rfl)) (by have := HXL.out; have := HL.out.jobs; simp only [maxLen]; omega) (by have := HXL.out; have := HL.out.jobs; omega) HC2.out.fr.size ?_); intro v4 w4 ho hg hat; have HC4 := Lib.hid (HC2.out.grow0 HT.out ho hg); obtain ⟨A4, c4, rfl, _⟩ := own_shape ho; clear ho hg hat d0 d1 d2 d3 d4 d5 d6 d7 d8 d9 e4 e5 e6 e7 e8 k0 k1 k2 k3 k4 k5 k6 k7 k8 k9 hga; obtain ⟨d0, d1, d2, d3, d4, d5, d6, d7⟩ := HC4.out.dst.cells8; have d8 := HC4.out.dst.lt; have d9 := HC4.out.dst.frozens)
      go_roundg (x.jobs.length - (i + 1))
      case measure => omega
      case rel => exact ⟨i + 1, _, by omega, by go_num, by rw [HX.out]; exact HC4.out.put HT.out 4 _⟩
    · obtain rfl : i = x.jobs.length := by omega
      rw [List.take_length] at HC
      obtain ⟨A, cA, rfl, _⟩ := own_shape HC.out.r0
      go_wp2_with (at_builtin; go_loud (refine wpList_append_owned' (by rfl) (.tmp 56) (.tmp 58) 58 (by rfl) w.heap.size 131 i1 _ 2 24 Try.underlying58 hi1 hz1 hzs1 hy1 rfl (by omega) nilV 0 [] (by rfl) HC.out.r1 A1 x.conds.length c1 f1 (x.conds.flatMap CondS.vals) (by rfl) (HS.out.conds.fr0 HC.out.fr) (vals_oneC _) (by have := HL.out.conds; simp only [maxLen]; omega) (by have := HL.out.conds; omega) HC.out.fr.size ?_); intro v4 w4 ho hg hat; rw [Nat.zero_add, List.nil_append] at ho; have HC4 := Lib.hid (HC.out.all1 HT.out ho hg); obtain ⟨A4, c4, rfl, _⟩ := own_shape ho; clear ho hg hat d0 d1 d2 d3 d4 d5 d6 d7 d8 d9 e4 e5 e6 e7 e8; obtain ⟨d0, d1, d2, d3, d4, d5, d6, d7⟩ := HC4.out.dst.cells8; have d8 := HC4.out.dst.lt; have d9 := HC4.out.dst.frozens)
      have HC5 := Lib.hid (HC4.out.put HT.out 5 (.slice A4 x.conds.length c4))
      clear d0 d1 d2 d3 d4 d5 d6 d7 d8 d9 HC
      go_loopg [6] x.res.length (fun g v6 wr => Cp2 w x 67 62 118 131 121 124 w.heap.size (w.heap.size + 1) (w.heap.size + 2) (x.cells A0 A1 A2 A3 c0 c1 c2 c3) (.slice A x.jobs.length cA) (.slice A4 x.conds.length c4) g v6 wr)
      case atStart => exact ⟨0, nilV, by omega, rfl, HC5.out⟩
      case round =>
        clear HC4 HC5
        obtain ⟨i, v2, hgi, rfl, hcp⟩ := hrel
        have HC := Lib.hid hcp
        clear hcp hn0 hlt
        have hn0 : (0 : Int) ≤ (i : Int) := by omega
        obtain ⟨d0, d1, d2, d3, d4, d5, d6, d7⟩ := HC.out.dst.cells8
        have d8 := HC.out.dst.lt
        have d9 := HC.out.dst.frozens
        have e4 := HC.out.src.cell 4
        have e5 := HC.out.src.cell 5
        have e6 := HC.out.src.cell 6
        have e7 := HC.out.src.cell 7
        have e8 := HC.out.src.lt
        simp only [List.getElem?_cons_zero, List.getElem?_cons_succ] at e4 e5 e6 e7
        by_cases hlt : i < x.res.length
        · have hn1 : (i : Int) < (x.res.length : Int) := by omega
          obtain ⟨y, hy⟩ : ∃ y, x.res[i]? = some y := ⟨_, List.getElem?_eq_getElem hlt⟩
          obtain ⟨ga, oa, rfl, hga, k0, k1, k2⟩ := res_at (HS.out.res.fr0 HC.out.fr) hy
          have HX := Lib.hid (show x.res.take (i + 1) = x.res.take i ++ [y] by rw [List.take_add_one, hy]; rfl)
          have HXL := Lib.hid (show (x.res.take i).length = i by rw [List.length_take]; omega)
          obtain ⟨l2, hl2⟩ : ∃ l2, l2 = x.res.take i := ⟨_, rfl⟩
          rw [← hl2] at HC HX HXL
          clear hy hl2
          obtain ⟨A2', cA2, rfl, _⟩ := own_shape HC.out.r2
          have HC2 := Lib.hid (HC.out.fr0 ((Fr.refl No wr).alloc (Obj.cells y.vals.toArray 121)).drew)
          have HN2 : Hid (Sl (wr.alloc (Obj.cells y.vals.toArray 121)).drew 121 3 (some ⟨wr.heap.size, 0, none⟩) 1 y.vals) := Lib.hid (Sl.of_new wr 121 3 1 y.vals.toArray y.vals rfl rfl).drew
          go_wp2
          refine wp_region_o [(0, 0), (1, 1), (2, 0), (3, 1), (4, 0), (5, 0), (6, 0), (7, 1), (8, 0), (9, 1), (10, 0), (11, 0), (12, 0), (13, 1), (14, 0), (15, 1), (16, 0), (17, 0), (18, 0), (19, 1), (20, 0), (21, 2), (22, 3), (23, 0), (24, 3)] (by kernel_rfl) (by kernel_rfl) ?_
          repeat (first
            | (apply wpO_pure rfl rfl; (focus (intro w'; go_simp; (try rfl); done)); try simp only [Act.put, List.setIfInBounds_toArray, List.set_cons_zero, List.set_cons_succ])
            | (apply wpO_read rfl rfl; (focus (intro w' hf' hs'; (try simp only [World.size_drew, World.cell?_drew, World.size_alloc, World.size_setCell] at hs'); go_simp; (try rfl); done)); try simp only [Act.put, List.setIfInBounds_toArray, List.set_cons_zero, List.set_cons_succ])
            | (apply wpO_skip (by decide) rfl rfl; try simp only [Act.put, List.setIfInBounds_toArray, List.set_cons_zero, List.set_cons_succ]))
          refine wpO_loudE rfl fun K hK => ?_
          go_simp
          refine hK _ _ ⟨by (repeat (first | exact Fr.refl _ _ | assumption | refine Fr.drew ?_ | refine Fr.alloc ?_ _ | refine Fr.drewL ?_)), ?_⟩
          clear hK K
          repeat (first
            | (apply wpO_pure rfl rfl; (focus (intro w'; go_simp; (try rfl); done)); try simp only [Act.put, List.setIfInBounds_toArray, List.set_cons_zero, List.set_cons_succ])
            | (apply wpO_read rfl rfl; (focus (intro w' hf' hs'; (try simp only [World.size_drew, World.cell?_drew, World.size_alloc, World.size_setCell] at hs'); go_simp; (try rfl); done)); try simp only [Act.put, List.setIfInBounds_toArray, List.set_cons_zero, List.set_cons_succ])
            | (apply wpO_skip (by decide) rfl rfl; try simp only [Act.put, List.setIfInBounds_toArray, List.set_cons_zero, List.set_cons_succ]))
          refine wpO_loud rfl fun K hK => ?_
          refine step_append_owned (by rfl) (.tmp 69) (.tmp 89) 59 (by rfl) w.heap.size 121 i2 _ 3 32 Try.underlying59 hi2 hz2 hzs2 hy2 rfl (by omega) (.slice A2' l2.length cA2) l2.length (l2.flatMap ResS.vals) (by rfl) HC2.out.r2 (some ⟨wr.heap.size, 0, none⟩) 1 1 121 y.vals (by rfl) HN2.out (List.all_eq_true.1 (by rfl)) (by have := HXL.out; have := HL.out.res; simp only [maxLen]; omega) (by have := HXL.out; have := HL.out.res; omega) HC2.out.fr.size ?_
          intro v4 w4 ho hg hat
          refine hK _ _ ?_
          clear hK K
          try simp only [Act.put, List.setIfInBounds_toArray, List.set_cons_zero, List.set_cons_succ]
          have HC6 := Lib.hid (HC2.out.grow2 HT.out ho hg)
          obtain ⟨A6, c6, rfl, _⟩ := own_shape ho
          clear ho hg hat d0 d1 d2 d3 d4 d5 d6 d7 d8 d9 e4 e5 e6 e7 e8 k0 k1 k2 hga
          obtain ⟨d0, d1, d2, d3, d4, d5, d6, d7⟩ := HC6.out.dst.cells8
          have d8 := HC6.out.dst.lt
          have d9 := HC6.out.dst.frozens
          repeat (first
            | (apply wpO_pure rfl rfl; (focus (intro w'; go_simp; (try rfl); done)); try simp only [Act.put, List.setIfInBounds_toArray, List.set_cons_zero, List.set_cons_succ])
            | (apply wpO_read rfl rfl; (focus (intro w' hf' hs'; (try simp only [World.size_drew, World.cell?_drew, World.size_alloc, World.size_setCell] at hs'); go_simp; (try rfl); done)); try simp only [Act.put, List.setIfInBounds_toArray, List.set_cons_zero, List.set_cons_succ])
            | (apply wpO_skip (by decide) rfl rfl; try simp only [Act.put, List.setIfInBounds_toArray, List.set_cons_zero, List.set_cons_succ]))
          refine wpO_loud rfl fun K hK => ?_
          go_simp
          refine hK _ _ ?_
          clear hK K
          repeat (first
            | (apply wpO_pure rfl rfl; (focus (intro w'; go_simp; (try rfl); done)); try simp only [Act.put, List.setIfInBounds_toArray, List.set_cons_zero, List.set_cons_succ])
            | (apply wpO_read rfl rfl; (focus (intro w' hf' hs'; (try simp only [World.size_drew, World.cell?_drew, World.size_alloc, World.size_setCell] at hs'); go_simp; (try rfl); done)); try simp only [Act.put, List.setIfInBounds_toArray, List.set_cons_zero, List.set_cons_succ])
            | (apply wpO_skip (by decide) rfl rfl; try simp only [Act.put, List.setIfInBounds_toArray, List.set_cons_zero, List.set_cons_succ]))
          refine wpO_nil ?_
          go_wp2
          go_roundg (x.res.length - (i + 1))
          case measure => omega
          case rel => exact ⟨i + 1, _, by omega, by go_num, by rw [HX.out]; exact HC6.out.put HT.out 6 _⟩
        · obtain rfl : i = x.res.length := by omega
          rw [List.take_length] at HC
          obtain ⟨A6, c6, rfl, _⟩ := own_shape HC.out.r2
          go_wp2
          clear d0 d1 d2 d3 d4 d5 d6 d7 d8 d9 e4 e5 e6 e7 e8
          go_loopg [7] x.held.length (fun g v7 wr => Cp3 w x 67 62 118 131 121 124 w.heap.size (w.heap.size + 1) (w.heap.size + 2) (x.cells A0 A1 A2 A3 c0 c1 c2 c3) (.slice A x.jobs.length cA) (.slice A4 x.conds.length c4) (.slice A6 x.res.length c6) g v7 wr)
          case atStart => exact ⟨0, nilV, by omega, rfl, HC.out⟩
          case round =>
            clear HC
            obtain ⟨i, v3, hgi, rfl, hcp⟩ := hrel
            have HC := Lib.hid hcp
            clear hcp hn0 hlt
            have hn0 : (0 : Int) ≤ (i : Int) := by omega
            obtain ⟨d0, d1, d2, d3, d4, d5, d6, d7⟩ := HC.out.dst.cells8
            have d8 := HC.out.dst.lt
            have d9 := HC.out.dst.frozens
            have e4 := HC.out.src.cell 4
            have e5 := HC.out.src.cell 5
            have e6 := HC.out.src.cell 6
            have e7 := HC.out.src.cell 7
            have e8 := HC.out.src.lt
            simp only [List.getElem?_cons_zero, List.getElem?_cons_succ] at e4 e5 e6 e7
            by_cases hlt : i < x.held.length
            · have hn1 : (i : Int) < (x.held.length : Int) := by omega
              obtain ⟨y, hy⟩ : ∃ y, x.held[i]? = some y := ⟨_, List.getElem?_eq_getElem hlt⟩
              obtain ⟨ga, oa, rfl, hga, k0, k1, k2, k3⟩ := held_at (HS.out.held.fr0 HC.out.fr) hy
              have HX := Lib.hid (show x.held.take (i + 1) = x.held.take i ++ [y] by rw [List.take_add_one, hy]; rfl)
              have HXL := Lib.hid (show (x.held.take i).length = i by rw [List.length_take]; omega)
              obtain ⟨l3, hl3⟩ : ∃ l3, l3 = x.held.take i := ⟨_, rfl⟩
              rw [← hl3] at HC HX HXL
              clear hy hl3
              obtain ⟨A3', cA3, rfl, _⟩ := own_shape HC.out.r3
              have HC2 := Lib.hid (HC.out.fr0 ((Fr.refl No wr).alloc (Obj.cells y.vals.toArray 124)).drew)
              have HN2 : Hid (Sl (wr.alloc (Obj.cells y.vals.toArray 124)).drew 124 4 (some ⟨wr.heap.size, 0, none⟩) 1 y.vals) := Lib.hid (Sl.of_new wr 124 4 1 y.vals.toArray y.vals rfl rfl).drew
              go_wp2
              refine wp_region_o [(0, 0), (1, 1), (2, 0), (3, 1), (4, 0), (5, 0), (6, 0), (7, 1), (8, 0), (9, 1), (10, 0), (11, 0), (12, 0), (13, 1), (14, 0), (15, 1), (16, 0), (17, 0), (18, 0), (19, 1), (20, 0), (21, 1), (22, 0), (23, 0), (24, 0), (25, 1), (26, 0), (27, 2), (28, 3), (29, 0), (30, 3)] (by kernel_rfl) (by kernel_rfl) ?_
              repeat (first
                | (apply wpO_pure rfl rfl; (focus (intro w'; go_simp; (try rfl); done)); try simp only [Act.put, List.setIfInBounds_toArray, List.set_cons_zero, List.set_cons_succ])
                | (apply wpO_read rfl rfl; (focus (intro w' hf' hs'; (try simp only [World.size_drew, World.cell?_drew, World.size_alloc, World.size_setCell] at hs'); go_simp; (try rfl); done)); try simp only [Act.put, List.setIfInBounds_toArray, List.set_cons_zero, List.set_cons_succ])
                | (apply wpO_skip (by decide) rfl rfl; try simp only [Act.put, List.setIfInBounds_toArray, List.set_cons_zero, List.set_cons_succ]))
              refine wpO_loudE rfl fun K hK => ?_
              go_simp
              refine hK _ _ ⟨by (repeat (first | exact Fr.refl _ _ | assumption | refine Fr.drew ?_ | refine Fr.alloc ?_ _ | refine Fr.drewL ?_)), ?_⟩
              clear hK K
              repeat (first
                | (apply wpO_pure rfl rfl; (focus (intro w'; go_simp; (try rfl); done)); try simp only [Act.put, List.setIfInBounds_toArray, List.set_cons_zero, List.set_cons_succ])
                | (apply wpO_read rfl rfl; (focus (intro w' hf' hs'; (try simp only [World.size_drew, World.cell?_drew, World.size_alloc, World.size_setCell] at hs'); go_simp; (try rfl); done)); try simp only [Act.put, List.setIfInBounds_toArray, List.set_cons_zero, List.set_cons_succ])
                | (apply wpO_skip (by decide) rfl rfl; try simp only [Act.put, List.setIfInBounds_toArray, List.set_cons_zero, List.set_cons_succ]))
              refine wpO_loud rfl fun K hK => ?_
              refine step_append_owned (by rfl) (.tmp 100) (.tmp 126) 60 (by rfl) w.heap.size 124 i3 _ 4 40 Try.underlying60 hi3 hz3 hzs3 hy3 rfl (by omega) (.slice A3' l3.length cA3) l3.length (l3.flatMap HeldS.vals) (by rfl) HC2.out.r3 (some ⟨wr.heap.size, 0, none⟩) 1 1 124 y.vals (by rfl) HN2.out (List.all_eq_true.1 (by rfl)) (by have := HXL.out; have := HL.out.held; simp only [maxLen]; omega) (by have := HXL.out; have := HL.out.held; omega) HC2.out.fr.size ?_
              intro v4 w4 ho hg hat
              refine hK _ _ ?_
              clear hK K
              try simp only [Act.put, List.setIfInBounds_toArray, List.set_cons_zero, List.set_cons_succ]
              have HC7 := Lib.hid (HC2.out.grow3 HT.out ho hg)
              obtain ⟨A7, c7, rfl, _⟩ := own_shape ho
              clear ho hg hat d0 d1 d2 d3 d4 d5 d6 d7 d8 d9 e4 e5 e6 e7 e8 k0 k1 k2 k3 hga
              obtain ⟨d0, d1, d2, d3, d4, d5, d6, d7⟩ := HC7.out.dst.cells8
              have d8 := HC7.out.dst.lt
              have d9 := HC7.out.dst.frozens
              repeat (first
                | (apply wpO_pure rfl rfl; (focus (intro w'; go_simp; (try rfl); done)); try simp only [Act.put, List.setIfInBounds_toArray, List.set_cons_zero, List.set_cons_succ])
                | (apply wpO_read rfl rfl; (focus (intro w' hf' hs'; (try simp only [World.size_drew, World.cell?_drew, World.size_alloc, World.size_setCell] at hs'); go_simp; (try rfl); done)); try simp only [Act.put, List.setIfInBounds_toArray, List.set_cons_zero, List.set_cons_succ])
                | (apply wpO_skip (by decide) rfl rfl; try simp only [Act.put, List.setIfInBounds_toArray, List.set_cons_zero, List.set_cons_succ]))
              refine wpO_loud rfl fun K hK => ?_
              go_simp
              refine hK _ _ ?_
              clear hK K
              repeat (first
                | (apply wpO_pure rfl rfl; (focus (intro w'; go_simp; (try rfl); done)); try simp only [Act.put, List.setIfInBounds_toArray, List.set_cons_zero, List.set_cons_succ])
                | (apply wpO_read rfl rfl; (focus (intro w' hf' hs'; (try simp only [World.size_drew, World.cell?_drew, World.size_alloc, World.size_setCell] at hs'); go_simp; (try rfl); done)); try simp only [Act.put, List.setIfInBounds_toArray, List.set_cons_zero, List.set_cons_succ])
                | (apply wpO_skip (by decide) rfl rfl; try simp only [Act.put, List.setIfInBounds_toArray, List.set_cons_zero, List.set_cons_succ]))
              refine wpO_nil ?_
              go_wp2
              go_roundg (x.held.length - (i + 1))
              case measure => omega
              case rel => exact ⟨i + 1, _, by omega, by go_num, by rw [HX.out]; exact HC7.out.put HT.out 7 _⟩
            · obtain rfl : i = x.held.length := by omega
              rw [List.take_length] at HC
              obtain ⟨A7, c7, rfl, _⟩ := own_shape HC.out.r3
              obtain ⟨z0, z1, z2, z3, z4, z5, z6, z7⟩ := HC.out.out.cells8
              have z8 := HC.out.out.lt
              have z9 := HC.out.out.frozens
              go_wp2
              have hf := (Fr.refl (fun k => k = w.heap.size + 1) wr).set8v (g := w.heap.size + 1) (.inl rfl) (.int .i64 x.clock) (.int .i64 x.day) (.int .i64 x.id) (.int .i64 x.run) (.slice A x.jobs.length cA) (.slice A4 x.conds.length c4) (.slice A6 x.res.length c6) (.slice A7 x.held.length c7)
              exact bodyPost_ret (taken_st_res (x := x) (A0 := A) (A1 := A4) (A2 := A6) (A3 := A7) (c0 := cA) (c1 := c4) (c2 := c6) (c3 := c7) (HC.out.out.set8v _ _ _ _ _ _ _ _) rfl) rfl ⟨A, A4, A6, A7, cA, c4, c6, c7, rfl,
                ⟨Sl.of_own (own_fr HC.out.r0 hf (fun k hk e => own_far HC.out.r0 HC.out.out HT.out.d0 k hk e)), Sl.of_own (own_fr HC.out.r1 hf (fun k hk e => own_far HC.out.r1 HC.out.out HT.out.d1 k hk e)), Sl.of_own (own_fr HC.out.r2 hf (fun k hk e => own_far HC.out.r2 HC.out.out HT.out.d2 k hk e)), Sl.of_own (own_fr HC.out.r3 hf (fun k hk e => own_far HC.out.r3 HC.out.out HT.out.d3 k hk e))⟩,
                HC.out.fr.set8v (.inr (Nat.le_succ _)) _ _ _ _ _ _ _ _⟩
end Go.Proofs.Ytegogggemmcgdaa

/- CodecEvents: the walk. -/
namespace Go.Proofs.Ytegogggemmcgdaa
open Go Go.RowKit Go.Proofs

theorem ints_one (l : List Int) : ∀ u ∈ l.flatMap (fun x => [Value.int .i64 x]), u.oneCell' = true := by
  intro u hu
  obtain ⟨x, _, hx⟩ := List.mem_flatMap.1 hu
  simp only [List.mem_singleton] at hx
  subst hx
  rfl
def putEvL (x : EvS) : Bs := if evBad x then [] else evAll x
def putEvE (x : EvS) : Int := if evBad x then 3 else 0
def PutEv (l : Bs) (e0 : Int) (w : World) (e : Ending) (w' : World) : Prop :=
  ∃ A c, e = .returned (.tuple #[.slice A l.length c, .int .i64 e0]) ∧ BsIn w' A c 5 l ∧ Fr No w w'
theorem putEv_p (x : EvS) (A : Option Addr) (c : Nat) (et : TypeId) (w : World) (hk : Sl w et 1 A x.keep.length (x.keep.flatMap fun x => [Value.int .i64 x])) (hm : x.keep.length ≤ maxLen) (hx : x.name.size ≤ 140737488355328) :
    Calls Try.prog 25 #[x.agg A c] w (PutEv (putEvL x) (putEvE x) w) := by
  refine (putEvent_any x A c et w hk hm hx).mono ?_
  rintro e w' ⟨A', c', rfl, ho, hf⟩
  rw [(evW_eq x).1] at ho ⊢
  rw [(evW_eq x).2]
  exact ⟨A', c', rfl, BsIn.of_own ho, hf⟩
theorem putEv_r (x : EvS) (A : Option Addr) (c : Nat) (et : TypeId) (w : World) (hk : Sl w et 1 A x.keep.length (x.keep.flatMap fun x => [Value.int .i64 x])) (hm : x.keep.length ≤ maxLen) (hx : x.name.size ≤ 140737488355328) :
    Calls Try.prog 26 #[x.agg A c] w (PutEv (putEvL x) (putEvE x) w) := by
  refine (refPutEvent_any x A c et w hk hm hx).mono ?_
  rintro e w' ⟨A', c', rfl, ho, hf⟩
  exact ⟨A', c', rfl, BsIn.of_own ho, hf⟩
attribute [irreducible] putEvL putEvE
set_option maxRecDepth 100000 in
set_option maxHeartbeats 2000000 in
theorem codecEvents_walk (x : EvS) (A : Option Addr) (c : Nat) (et : TypeId) (w : World) (hok : EvOk x) (hk : Sl w et 1 A x.keep.length (x.keep.flatMap fun x => [Value.int .i64 x])) (hm : x.keep.length * 8 ≤ 140737488355328) (hx : x.name.size ≤ 140737488355328) :
    Calls Try.prog 5 #[x.agg A c] w fun e w' => e = .returned (.bool true) ∧ Fr No w w' := by
  have HK := Lib.hid hk
  have HM := Lib.hid (show x.keep.length ≤ maxLen by simp only [maxLen]; omega)
  have HM8 := Lib.hid hm
  have HX := Lib.hid hx
  have HOK := Lib.hid hok
  have HB := Lib.hid (Blk.new w 49 (x.cells A c))
  have HF := Lib.hid ((Fr.refl No w).alloc (Obj.cells (x.cells A c).toArray 49))
  obtain ⟨pl, hpl⟩ : ∃ pl, pl = putEvL x := ⟨_, rfl⟩
  obtain ⟨pe, hpe⟩ : ∃ pe, pe = putEvE x := ⟨_, rfl⟩
  have HPE : Hid ((pe = 3 ∧ evBad x = true) ∨ (pe = 0 ∧ evBad x = false ∧ pl = evAll x)) := Lib.hid (by
    rw [hpe, hpl]
    unfold putEvE putEvL
    cases evBad x
    · exact .inr ⟨rfl, rfl, rfl⟩
    · exact .inl ⟨rfl, rfl⟩)
  have HP : Hid (∀ A c et w, Sl w et 1 A x.keep.length (x.keep.flatMap fun x => [Value.int .i64 x]) → Calls Try.prog 25 #[x.agg A c] w (PutEv pl pe w)) := Lib.hid (fun A c et w h => by rw [hpl, hpe]; exact putEv_p x A c et w h HM.out HX.out)
  have HR : Hid (∀ A c et w, Sl w et 1 A x.keep.length (x.keep.flatMap fun x => [Value.int .i64 x]) → Calls Try.prog 26 #[x.agg A c] w (PutEv pl pe w)) := Lib.hid (fun A c et w h => by rw [hpl, hpe]; exact putEv_r x A c et w h HM.out HX.out)
  obtain ⟨r0, r1, r2, r3, r4⟩ := HB.out.cells5
  have lB := HB.out.lt
  obtain ⟨i0, hi0, hz0, hz1, hz2⟩ := info_parts (show (Try.prog.info? 3).map (fun i => (i.zero, i.size, i.bytes)) = some (some (.int .i64 0), 1, 8) by kernel_rfl)
  clear hk hm hx hok hpl hpe
  rcases HPE.out with ⟨rfl, hev⟩ | ⟨rfl, hev, hpa⟩
  · clear hev
    go_enter Try.func5, Try.ntmps5
    go_wp2_with (first
      | (go_at_call 28; go_loud (refine (codKnown_any _).mono ?_); rintro e w7 ⟨rfl, hf7⟩; have HF7 : Hid (Fr No w w7) := Lib.hid (by first | exact HF6.out.trans hf7 | exact HF4.out.trans hf7); clear hf7)
      | (go_at_call 27; go_loud (refine (sameEv_any x A5 A c5 c _ _ _ (HK5.out.alloc _) ((HK.out.fr0 HF5.out).alloc _) HM.out).mono ?_); rintro e w6 ⟨rfl, hf6⟩; have HF6 := Lib.hid ((HF5.out.alloc (Obj.cells (x.cells A5 c5).toArray 49)).trans hf6); clear hf6 r0 r1 r2 r3 r4 lB s0 s1 s2 s3 s4 lS)
      | (go_at_call 29; go_loud (refine (HGE.out A3 c3 _ HI4.out).mono ?_); rintro e w5 ⟨A5, c5, rfl, hk5, hf5⟩; have HK5 := Lib.hid hk5; have HF5 := Lib.hid (HF4.out.trans hf5); have B5 := (HB4.out.fr hf5 (fun h => h)).alloc (Obj.cells (x.cells A5 c5).toArray 49); have S5 := Blk.new w5 49 (x.cells A5 c5); obtain ⟨r0, r1, r2, r3, r4⟩ := B5.cells5; have lB := B5.lt; obtain ⟨s0, s1, s2, s3, s4⟩ := S5.cells5; have lS := S5.lt; clear hk5 hf5 B5 S5)
      | (go_at_call 27; go_loud (refine (sameEv_any x A1 A c1 c _ _ _ HK1.out HK0.out HM.out).mono ?_); rintro e w4 ⟨rfl, hf4⟩; have HF4 := Lib.hid (HF3.out.trans hf4); have HI4 := Lib.hid (HI3.out.fr0 hf4); have HB4 := Lib.hid (HB3.out.fr hf4 (fun h => h)); clear hf4 q1 q2 r0 r1 r2 r3 r4 lB s0 s1 s2 s3 s4 lS)
      | (go_at_call 26; go_loud (refine (HR.out A c _ _ ((HK.out.fr0 HF2.out))).mono ?_); rintro e w3 ⟨A3, c3, rfl, hi3, hf3⟩; have HF3 := Lib.hid (HF2.out.trans hf3); have HI3 := Lib.hid hi3; have B3 := HB2.out.fr hf3 (fun h => h); have S3 := HS2.out.fr hf3 (fun h => h); have HB3 := Lib.hid B3; have HK1 := Lib.hid ((((Sl.of_own HO1.out).alloc (Obj.cells (x.cells A1 c1).toArray 49)).fr0 hf2').fr0 hf3); have HK0 := Lib.hid (HK.out.fr0 HF3.out); have q1 := run_str (c := c2) (HI2.out.fr0 hf3).sl; have q2 := run_str (c := c3) hi3.sl; clear r0 r1 r2 r3 r4 lB; obtain ⟨r0, r1, r2, r3, r4⟩ := B3.cells5; have lB := B3.lt; obtain ⟨s0, s1, s2, s3, s4⟩ := S3.cells5; have lS := S3.lt; clear hi3 hf3 B3 S3 hf2')
      | (go_at_call 25; go_loud (refine (HP.out A1 c1 _ _ ((Sl.of_own HO1.out).alloc _)).mono ?_); rintro e w2 ⟨A2, c2, rfl, hi2, hf2⟩; have HI2 := Lib.hid hi2; have hf2' := hf2; have HF2 := Lib.hid ((HF1.out.alloc (Obj.cells (x.cells A1 c1).toArray 49)).trans hf2); have B2 := (HB1.out.alloc (Obj.cells (x.cells A1 c1).toArray 49)).fr hf2 (fun h => h); have HB2 := Lib.hid B2; have HS2 := Lib.hid ((Blk.new w1 49 (x.cells A1 c1)).fr hf2 (fun h => h)); clear r0 r1 r2 r3 r4 lB; obtain ⟨r0, r1, r2, r3, r4⟩ := B2.cells5; have lB := B2.lt; clear hi2 hf2 B2)
      | (at_builtin; go_loud (refine wpList_append_owned' (by rfl) (.tmp 11) (.tmp 13) 23 (by rfl) w.heap.size 3 i0 _ 1 8 Try.underlying23 hi0 hz0 hz1 hz2 rfl (by omega) (.slice none 0 0) 0 [] (by rfl) ⟨rfl, .inl ⟨rfl, rfl⟩⟩ A x.keep.length c et (x.keep.flatMap fun x => [Value.int .i64 x]) (by rfl) (HK.out.fr0 HF.out) (ints_one _) (by have := HM.out; omega) (by have := HM8.out; omega) HF.out.size ?_); intro v1 w1 ho1 hg1 hat1; rw [Nat.zero_add, List.nil_append] at ho1; obtain ⟨A1, c1, rfl, _⟩ := own_shape ho1; have hf1 : Fr No _ w1 := (Fr.of_grown hg1).mono (fun k _ h => by cases h); have HO1 := Lib.hid ho1; have HF1 := Lib.hid (HF.out.trans hf1); have B1 := HB.out.fr hf1 (fun h => h); have HB1 := Lib.hid B1; clear r0 r1 r2 r3 r4 lB; obtain ⟨r0, r1, r2, r3, r4⟩ := B1.cells5; have lB := B1.lt; clear ho1 hg1 hat1 hf1 B1))
    go_ret
    exact ⟨rfl, HF7.out⟩
  · have HGE : Hid (∀ A c w, BsIn w A c 5 pl → Calls Try.prog 29 #[.slice A pl.length c] w fun e w' => ∃ A' c', e = .returned (.tuple #[x.agg A' c', .int .i64 0]) ∧ Sl w' 3 1 A' x.keep.length (x.keep.flatMap fun x => [Value.int .i64 x]) ∧ Fr No w w') := Lib.hid (fun A c w h => by
      refine (getEvent_any A c 5 pl w h).mono ?_
      rintro e w' ⟨A', c', rfl, ho, hf⟩
      rw [hpa, getEv_back x HOK.out hev] at ho ⊢
      exact ⟨A', c', rfl, Sl.of_own ho, hf⟩)
    clear hev hpa
    go_enter Try.func5, Try.ntmps5
    go_wp2_with (first
      | (go_at_call 28; go_loud (refine (codKnown_any _).mono ?_); rintro e w7 ⟨rfl, hf7⟩; have HF7 : Hid (Fr No w w7) := Lib.hid (by first | exact HF6.out.trans hf7 | exact HF4.out.trans hf7); clear hf7)
      | (go_at_call 27; go_loud (refine (sameEv_any x A5 A c5 c _ _ _ (HK5.out.alloc _) ((HK.out.fr0 HF5.out).alloc _) HM.out).mono ?_); rintro e w6 ⟨rfl, hf6⟩; have HF6 := Lib.hid ((HF5.out.alloc (Obj.cells (x.cells A5 c5).toArray 49)).trans hf6); clear hf6 r0 r1 r2 r3 r4 lB s0 s1 s2 s3 s4 lS)
      | (go_at_call 29; go_loud (refine (HGE.out A3 c3 _ HI4.out).mono ?_); rintro e w5 ⟨A5, c5, rfl, hk5, hf5⟩; have HK5 := Lib.hid hk5; have HF5 := Lib.hid (HF4.out.trans hf5); have B5 := (HB4.out.fr hf5 (fun h => h)).alloc (Obj.cells (x.cells A5 c5).toArray 49); have S5 := Blk.new w5 49 (x.cells A5 c5); obtain ⟨r0, r1, r2, r3, r4⟩ := B5.cells5; have lB := B5.lt; obtain ⟨s0, s1, s2, s3, s4⟩ := S5.cells5; have lS := S5.lt; clear hk5 hf5 B5 S5)
      | (go_at_call 27; go_loud (refine (sameEv_any x A1 A c1 c _ _ _ HK1.out HK0.out HM.out).mono ?_); rintro e w4 ⟨rfl, hf4⟩; have HF4 := Lib.hid (HF3.out.trans hf4); have HI4 := Lib.hid (HI3.out.fr0 hf4); have HB4 := Lib.hid (HB3.out.fr hf4 (fun h => h)); clear hf4 q1 q2 r0 r1 r2 r3 r4 lB s0 s1 s2 s3 s4 lS)
      | (go_at_call 26; go_loud (refine (HR.out A c _ _ ((HK.out.fr0 HF2.out))).mono ?_); rintro e w3 ⟨A3, c3, rfl, hi3, hf3⟩; have HF3 := Lib.hid (HF2.out.trans hf3); have HI3 := Lib.hid hi3; have B3 := HB2.out.fr hf3 (fun h => h); have S3 := HS2.out.fr hf3 (fun h => h); have HB3 := Lib.hid B3; have HK1 := Lib.hid ((((Sl.of_own HO1.out).alloc (Obj.cells (x.cells A1 c1).toArray 49)).fr0 hf2').fr0 hf3); have HK0 := Lib.hid (HK.out.fr0 HF3.out); have q1 := run_str (c := c2) (HI2.out.fr0 hf3).sl; have q2 := run_str (c := c3) hi3.sl; clear r0 r1 r2 r3 r4 lB; obtain ⟨r0, r1, r2, r3, r4⟩ := B3.cells5; have lB := B3.lt; obtain ⟨s0, s1, s2, s3, s4⟩ := S3.cells5; have lS := S3.lt; clear hi3 hf3 B3 S3 hf2')
      | (go_at_call 25; go_loud (refine (HP.out A1 c1 _ _ ((Sl.of_own HO1.out).alloc _)).mono ?_); rintro e w2 ⟨A2, c2, rfl, hi2, hf2⟩; have HI2 := Lib.hid hi2; have hf2' := hf2; have HF2 := Lib.hid ((HF1.out.alloc (Obj.cells (x.cells A1 c1).toArray 49)).trans hf2); have B2 := (HB1.out.alloc (Obj.cells (x.cells A1 c1).toArray 49)).fr hf2 (fun h => h); have HB2 := Lib.hid B2; have HS2 := Lib.hid ((Blk.new w1 49 (x.cells A1 c1)).fr hf2 (fun h => h)); clear r0 r1 r2 r3 r4 lB; obtain ⟨r0, r1, r2, r3, r4⟩ := B2.cells5; have lB := B2.lt; clear hi2 hf2 B2)
      | (at_builtin; go_loud (refine wpList_append_owned' (by rfl) (.tmp 11) (.tmp 13) 23 (by rfl) w.heap.size 3 i0 _ 1 8 Try.underlying23 hi0 hz0 hz1 hz2 rfl (by omega) (.slice none 0 0) 0 [] (by rfl) ⟨rfl, .inl ⟨rfl, rfl⟩⟩ A x.keep.length c et (x.keep.flatMap fun x => [Value.int .i64 x]) (by rfl) (HK.out.fr0 HF.out) (ints_one _) (by have := HM.out; omega) (by have := HM8.out; omega) HF.out.size ?_); intro v1 w1 ho1 hg1 hat1; rw [Nat.zero_add, List.nil_append] at ho1; obtain ⟨A1, c1, rfl, _⟩ := own_shape ho1; have hf1 : Fr No _ w1 := (Fr.of_grown hg1).mono (fun k _ h => by cases h); have HO1 := Lib.hid ho1; have HF1 := Lib.hid (HF.out.trans hf1); have B1 := HB.out.fr hf1 (fun h => h); have HB1 := Lib.hid B1; clear r0 r1 r2 r3 r4 lB; obtain ⟨r0, r1, r2, r3, r4⟩ := B1.cells5; have lB := B1.lt; clear ho1 hg1 hat1 hf1 B1))
    go_ret
    exact ⟨rfl, HF7.out⟩
end Go.Proofs.Ytegogggemmcgdaa

/- CodecStates: the walk. -/
namespace Go.Proofs.Ytegogggemmcgdaa
open Go Go.RowKit Go.Proofs

section
variable {w w' : World} {x : StS} {A0 A1 A2 A3 : Option Addr} {e0 e1 e2 e3 : TypeId}
theorem StSl.fr0 (h : StSl w x A0 A1 A2 A3 e0 e1 e2 e3) (hf : Fr No w w') : StSl w' x A0 A1 A2 A3 e0 e1 e2 e3 := ⟨h.jobs.fr0 hf, h.conds.fr0 hf, h.res.fr0 hf, h.held.fr0 hf⟩
theorem StOwn.sl {base c0 c1 c2 c3 : Nat} (h : StOwn w base x A0 A1 A2 A3 c0 c1 c2 c3) : StSl w x A0 A1 A2 A3 119 131 122 125 := ⟨Sl.of_own h.jobs, Sl.of_own h.conds, Sl.of_own h.res, Sl.of_own h.held⟩
end
theorem putSt_p (source : ByteArray) (x : StS) (A0 A1 A2 A3 : Option Addr) (c0 c1 c2 c3 : Nat) (e0 e1 e2 e3 : TypeId) (w : World) (hS : StSl w x A0 A1 A2 A3 e0 e1 e2 e3) (hok : StOk source x) :
    Calls Try.prog 31 #[.string source, x.agg A0 A1 A2 A3 c0 c1 c2 c3] w (PutEv (putStL source x) (putStE source x) w) := by
  refine (putState_any source x A0 A1 A2 A3 c0 c1 c2 c3 e0 e1 e2 e3 w hS hok).mono ?_
  rintro e w' ⟨A', c', rfl, ho, hf⟩
  rw [(cutSt_eq source x).1] at ho ⊢
  rw [(cutSt_eq source x).2]
  exact ⟨A', c', rfl, BsIn.of_own ho, hf⟩
theorem putSt_r (source : ByteArray) (x : StS) (A0 A1 A2 A3 : Option Addr) (c0 c1 c2 c3 : Nat) (e0 e1 e2 e3 : TypeId) (w : World) (hS : StSl w x A0 A1 A2 A3 e0 e1 e2 e3) (hL : StLen x) :
    Calls Try.prog 32 #[.string source, x.agg A0 A1 A2 A3 c0 c1 c2 c3] w (PutEv (putStL source x) (putStE source x) w) := by
  unfold putStL putStE
  cases hb : largeB source x
  · refine (refPutState_fits source x A0 A1 A2 A3 c0 c1 c2 c3 e0 e1 e2 e3 w hS hL hb).mono ?_
    rintro e w' ⟨A', c', rfl, ho, hf⟩
    exact ⟨A', c', rfl, BsIn.of_own ho, hf⟩
  · refine (refPutState_large source x A0 A1 A2 A3 c0 c1 c2 c3 e0 e1 e2 e3 w hS hL hb).mono ?_
    rintro e w' ⟨A', c', rfl, ho, hf⟩
    exact ⟨A', c', rfl, BsIn.of_own ho, hf⟩
theorem StOk.of (source : ByteArray) (x : StS) (hL : StLen x) (h : source.size ≤ 140737488355328) (h1 : ∀ y ∈ x.conds, y.name.size ≤ 140737488355328) (h2 : ∀ y ∈ x.res, y.name.size ≤ 140737488355328) (h3 : ∀ y ∈ x.held, y.name.size ≤ 140737488355328) : StOk source x := by
  obtain ⟨a, b, c, d⟩ := hL
  exact ⟨h, h1, h2, h3, by simp only [maxLen]; omega, by simp only [maxLen]; omega, by simp only [maxLen]; omega, by simp only [maxLen]; omega⟩
set_option maxRecDepth 100000 in
set_option maxHeartbeats 4000000 in
theorem codecStates_walk (source : ByteArray) (x : StS) (A0 A1 A2 A3 : Option Addr) (c0 c1 c2 c3 : Nat) (e0 e1 e2 e3 : TypeId) (w : World) (hi : StI x) (hk : StSl w x A0 A1 A2 A3 e0 e1 e2 e3) (hL : StLen x) (hok : StOk source x) :
    Calls Try.prog 6 #[.string source, x.agg A0 A1 A2 A3 c0 c1 c2 c3] w fun e w' => e = .returned (.bool true) ∧ Fr No w w' := by
  have HK := Lib.hid hk
  have HL := Lib.hid hL
  have HOK := Lib.hid hi
  have HB := Lib.hid (Blk.new w 62 (x.cells A0 A1 A2 A3 c0 c1 c2 c3))
  have HF := Lib.hid ((Fr.refl No w).alloc (Obj.cells (x.cells A0 A1 A2 A3 c0 c1 c2 c3).toArray 62))
  obtain ⟨pl, hpl⟩ : ∃ pl, pl = putStL source x := ⟨_, rfl⟩
  obtain ⟨pe, hpe⟩ : ∃ pe, pe = putStE source x := ⟨_, rfl⟩
  have HPE := putSt_cases source x
  rw [← hpl, ← hpe] at HPE
  replace HPE := Lib.hid HPE
  have HP : Hid (∀ A0 A1 A2 A3 c0 c1 c2 c3 e0 e1 e2 e3 w, StSl w x A0 A1 A2 A3 e0 e1 e2 e3 → Calls Try.prog 31 #[.string source, x.agg A0 A1 A2 A3 c0 c1 c2 c3] w (PutEv pl pe w)) := Lib.hid (by
    intro A0 A1 A2 A3 c0 c1 c2 c3 e0 e1 e2 e3 w h
    rw [hpl, hpe]; exact putSt_p source x A0 A1 A2 A3 c0 c1 c2 c3 _ _ _ _ w h hok)
  have HR : Hid (∀ A0 A1 A2 A3 c0 c1 c2 c3 e0 e1 e2 e3 w, StSl w x A0 A1 A2 A3 e0 e1 e2 e3 → Calls Try.prog 32 #[.string source, x.agg A0 A1 A2 A3 c0 c1 c2 c3] w (PutEv pl pe w)) := Lib.hid (by
    intro A0 A1 A2 A3 c0 c1 c2 c3 e0 e1 e2 e3 w h
    rw [hpl, hpe]; exact putSt_r source x A0 A1 A2 A3 c0 c1 c2 c3 _ _ _ _ w h hL)
  obtain ⟨r0, r1, r2, r3, r4, r5, r6, r7⟩ := HB.out.cells8
  have lB := HB.out.lt
  clear hk hL hok hi hpl hpe
  rcases HPE.out with ⟨rfl, hev⟩ | ⟨rfl, hpa, hev, hln⟩
  · clear hev
    go_enter Try.func6, Try.ntmps6
    go_wp2_with (first
      | (go_at_call 32; go_loud (refine (HR.out A0 A1 A2 A3 c0 c1 c2 c3 _ _ _ _ _ (HK.out.fr0 HF2.out)).mono ?_); rintro e w3 ⟨A6, c6, rfl, hi3, hf3⟩; have HF3 := Lib.hid (HF2.out.trans hf3); have HI3 := Lib.hid hi3; have HI2' := Lib.hid (HI2.out.fr0 hf3); have HB3 := Lib.hid (HB2.out.fr hf3 (fun h => h)); have HG3 := Lib.hid (HG2.out.fr hf3 (fun h => h)); have HS3 := Lib.hid (HS2.out.fr0 hf3); clear r0 r1 r2 r3 r4 r5 r6 r7 lB s0 s1 s2 s3 s4 s5 s6 s7 lS; obtain ⟨r0, r1, r2, r3, r4, r5, r6, r7⟩ := HB3.out.cells8; have lB := HB3.out.lt; obtain ⟨s0, s1, s2, s3, s4, s5, s6, s7⟩ := HG3.out.cells8; have lS := HG3.out.lt; clear hi3 hf3)
      | (go_at_call 31; go_loud (refine (HP.out B0 B1 B2 B3 d0 d1 d2 d3 _ _ _ _ _ (HS1.out.fr0 ((Fr.refl No w1).alloc (Obj.cells (x.cells B0 B1 B2 B3 d0 d1 d2 d3).toArray 67)))).mono ?_); rintro e w2 ⟨A5, c5, rfl, hi2, hf2⟩; have HI2 := Lib.hid hi2; have HF2 := Lib.hid ((HF1.out.alloc (Obj.cells (x.cells B0 B1 B2 B3 d0 d1 d2 d3).toArray 67)).trans hf2); have HB2 := Lib.hid (HB1.out.fr hf2 (fun h => h)); have HG2 := Lib.hid (HG1.out.fr hf2 (fun h => h)); have HS2 := Lib.hid ((HS1.out.fr0 ((Fr.refl No w1).alloc (Obj.cells (x.cells B0 B1 B2 B3 d0 d1 d2 d3).toArray 67))).fr0 hf2); clear r0 r1 r2 r3 r4 r5 r6 r7 lB s0 s1 s2 s3 s4 s5 s6 s7 lS; obtain ⟨r0, r1, r2, r3, r4, r5, r6, r7⟩ := HB2.out.cells8; have lB := HB2.out.lt; obtain ⟨s0, s1, s2, s3, s4, s5, s6, s7⟩ := HG2.out.cells8; have lS := HG2.out.lt; clear hi2 hf2)
      | (go_at_call 30; go_loud (refine (given_st x A0 A1 A2 A3 c0 c1 c2 c3 e0 e1 e2 e3 _ (HK.out.fr0 HF.out) HL.out).mono ?_); rintro e w1 ⟨B0, B1, B2, B3, d0, d1, d2, d3, rfl, hs1, hf1⟩; have HS1 := Lib.hid hs1; have HF1 := Lib.hid (HF.out.trans hf1); have HB1 := Lib.hid ((HB.out.fr hf1 (fun h => h)).alloc (Obj.cells (x.cells B0 B1 B2 B3 d0 d1 d2 d3).toArray 67)); have HG1 := Lib.hid (Blk.new w1 67 (x.cells B0 B1 B2 B3 d0 d1 d2 d3)); clear r0 r1 r2 r3 r4 r5 r6 r7 lB; obtain ⟨r0, r1, r2, r3, r4, r5, r6, r7⟩ := HB1.out.cells8; have lB := HB1.out.lt; obtain ⟨s0, s1, s2, s3, s4, s5, s6, s7⟩ := HG1.out.cells8; have lS := HG1.out.lt; clear hs1 hf1))
    refine wp_region_o [(0, 0), (2, 0), (1, 1), (3, 1), (4, 0), (5, 0), (6, 0), (7, 0), (8, 0), (9, 0), (10, 0), (11, 1), (13, 1), (12, 2), (14, 2), (15, 0), (16, 0)] (by kernel_rfl) (by kernel_rfl) ?_
    repeat (first
      | (apply wpO_pure rfl rfl; (focus (intro w'; go_simp; (try rfl); done)); try simp only [Act.put, List.setIfInBounds_toArray, List.set_cons_zero, List.set_cons_succ])
      | (apply wpO_read rfl rfl; (focus (intro w' hf' hs'; (try simp only [World.size_drew, World.cell?_drew, World.size_alloc, World.size_setCell] at hs'); go_simp; (try rfl); done)); try simp only [Act.put, List.setIfInBounds_toArray, List.set_cons_zero, List.set_cons_succ])
      | (apply wpO_skip (by decide) rfl rfl; try simp only [Act.put, List.setIfInBounds_toArray, List.set_cons_zero, List.set_cons_succ]))
    apply wpO_read rfl rfl
    (focus (intro w' hf' hs'; have hrd := run_str (c := c5) (BsIn.fr0 HI2'.out ((Fr.refl No w3).drew.trans hf')).sl; go_simp; (try rfl); done))
    try simp only [Act.put, List.setIfInBounds_toArray, List.set_cons_zero, List.set_cons_succ]
    apply wpO_read rfl rfl
    (focus (intro w' hf' hs'; have hrd := run_str (c := c6) (BsIn.fr0 HI3.out ((Fr.refl No w3).drew.trans hf')).sl; go_simp; (try rfl); done))
    try simp only [Act.put, List.setIfInBounds_toArray, List.set_cons_zero, List.set_cons_succ]
    repeat (first
      | (apply wpO_pure rfl rfl; (focus (intro w'; go_simp; (try rfl); done)); try simp only [Act.put, List.setIfInBounds_toArray, List.set_cons_zero, List.set_cons_succ])
      | (apply wpO_read rfl rfl; (focus (intro w' hf' hs'; (try simp only [World.size_drew, World.cell?_drew, World.size_alloc, World.size_setCell] at hs'); go_simp; (try rfl); done)); try simp only [Act.put, List.setIfInBounds_toArray, List.set_cons_zero, List.set_cons_succ])
      | (apply wpO_skip (by decide) rfl rfl; try simp only [Act.put, List.setIfInBounds_toArray, List.set_cons_zero, List.set_cons_succ]))
    refine wpO_loudE rfl fun K hK => ?_
    go_simp
    refine (taken_st x B0 B1 B2 B3 d0 d1 d2 d3 _ _ _ _ _ (HS3.out.fr0 (Fr.refl No w3).drew) HL.out).mono ?_
    rintro e w4 ⟨C0, C1, C2, C3, k0, k1, k2, k3, rfl, hs4, hf4⟩
    refine hK _ _ ⟨hf4, ?_⟩
    clear hK K
    have HS4 := Lib.hid hs4
    have HF4 := Lib.hid (HF3.out.drew.trans hf4)
    have HB4 := Lib.hid (HB3.out.drew.fr hf4 (fun h => h))
    have HI4 := Lib.hid (HI3.out.fr0 ((Fr.refl No w3).drew.trans hf4))
    clear hs4 hf4
    clear r0 r1 r2 r3 r4 r5 r6 r7 lB s0 s1 s2 s3 s4 s5 s6 s7 lS
    repeat (first
      | (apply wpO_pure rfl rfl; (focus (intro w'; go_simp; (try rfl); done)); try simp only [Act.put, List.setIfInBounds_toArray, List.set_cons_zero, List.set_cons_succ])
      | (apply wpO_read rfl rfl; (focus (intro w' hf' hs'; (try simp only [World.size_drew, World.cell?_drew, World.size_alloc, World.size_setCell] at hs'); go_simp; (try rfl); done)); try simp only [Act.put, List.setIfInBounds_toArray, List.set_cons_zero, List.set_cons_succ])
      | (apply wpO_skip (by decide) rfl rfl; try simp only [Act.put, List.setIfInBounds_toArray, List.set_cons_zero, List.set_cons_succ]))
    refine wpO_loudE rfl fun K hK => ?_
    go_simp
    refine (sameSt_any x C0 C1 C2 C3 A0 A1 A2 A3 k0 k1 k2 k3 c0 c1 c2 c3 _ _ _ _ _ _ _ _ _ HS4.out (HK.out.fr0 HF4.out) HL.out).mono ?_
    rintro e w5 ⟨rfl, hf5⟩
    refine hK _ _ ⟨hf5, ?_⟩
    clear hK K
    have HF5 := Lib.hid (HF4.out.trans hf5)
    have HB5 := Lib.hid (HB4.out.fr hf5 (fun h => h))
    have HI5 := Lib.hid (HI4.out.fr0 hf5)
    clear hf5
    repeat (first
      | (apply wpO_pure rfl rfl; (focus (intro w'; go_simp; (try rfl); done)); try simp only [Act.put, List.setIfInBounds_toArray, List.set_cons_zero, List.set_cons_succ])
      | (apply wpO_read rfl rfl; (focus (intro w' hf' hs'; (try simp only [World.size_drew, World.cell?_drew, World.size_alloc, World.size_setCell] at hs'); go_simp; (try rfl); done)); try simp only [Act.put, List.setIfInBounds_toArray, List.set_cons_zero, List.set_cons_succ])
      | (apply wpO_skip (by decide) rfl rfl; try simp only [Act.put, List.setIfInBounds_toArray, List.set_cons_zero, List.set_cons_succ]))
    refine wpO_nil ?_
    go_wp2_with (go_at_call 28; go_loud (refine (codKnown_any _).mono ?_); rintro e w7 ⟨rfl, hf7⟩; have HF7 := Lib.hid (HF5.out.trans hf7); clear hf7)
    go_ret
    exact ⟨rfl, HF7.out⟩
  · have HGE : Hid (∀ A c w, BsIn w A c 5 pl → Calls Try.prog 35 #[.slice A pl.length c] w fun e w' => ∃ A0 A1 A2 A3 c0 c1 c2 c3, e = .returned (.tuple #[.string source, x.agg A0 A1 A2 A3 c0 c1 c2 c3, .int .i64 0]) ∧ StSl w' x A0 A1 A2 A3 119 131 122 125 ∧ Fr No w w') := Lib.hid (fun A c w h => by
      refine (getState_any A c 5 pl w h).mono ?_
      rintro e w' ⟨C0, C1, C2, C3, k0, k1, k2, k3, rfl, ho, hf⟩
      rw [hpa, getSt_back source x HOK.out hev hln] at ho ⊢
      exact ⟨C0, C1, C2, C3, k0, k1, k2, k3, rfl, ho.sl, hf⟩)
    clear hev hpa hln
    go_enter Try.func6, Try.ntmps6
    go_wp2_with (first
      | (go_at_call 32; go_loud (refine (HR.out A0 A1 A2 A3 c0 c1 c2 c3 _ _ _ _ _ (HK.out.fr0 HF2.out)).mono ?_); rintro e w3 ⟨A6, c6, rfl, hi3, hf3⟩; have HF3 := Lib.hid (HF2.out.trans hf3); have HI3 := Lib.hid hi3; have HI2' := Lib.hid (HI2.out.fr0 hf3); have HB3 := Lib.hid (HB2.out.fr hf3 (fun h => h)); have HG3 := Lib.hid (HG2.out.fr hf3 (fun h => h)); have HS3 := Lib.hid (HS2.out.fr0 hf3); clear r0 r1 r2 r3 r4 r5 r6 r7 lB s0 s1 s2 s3 s4 s5 s6 s7 lS; obtain ⟨r0, r1, r2, r3, r4, r5, r6, r7⟩ := HB3.out.cells8; have lB := HB3.out.lt; obtain ⟨s0, s1, s2, s3, s4, s5, s6, s7⟩ := HG3.out.cells8; have lS := HG3.out.lt; clear hi3 hf3)
      | (go_at_call 31; go_loud (refine (HP.out B0 B1 B2 B3 d0 d1 d2 d3 _ _ _ _ _ (HS1.out.fr0 ((Fr.refl No w1).alloc (Obj.cells (x.cells B0 B1 B2 B3 d0 d1 d2 d3).toArray 67)))).mono ?_); rintro e w2 ⟨A5, c5, rfl, hi2, hf2⟩; have HI2 := Lib.hid hi2; have HF2 := Lib.hid ((HF1.out.alloc (Obj.cells (x.cells B0 B1 B2 B3 d0 d1 d2 d3).toArray 67)).trans hf2); have HB2 := Lib.hid (HB1.out.fr hf2 (fun h => h)); have HG2 := Lib.hid (HG1.out.fr hf2 (fun h => h)); have HS2 := Lib.hid ((HS1.out.fr0 ((Fr.refl No w1).alloc (Obj.cells (x.cells B0 B1 B2 B3 d0 d1 d2 d3).toArray 67))).fr0 hf2); clear r0 r1 r2 r3 r4 r5 r6 r7 lB s0 s1 s2 s3 s4 s5 s6 s7 lS; obtain ⟨r0, r1, r2, r3, r4, r5, r6, r7⟩ := HB2.out.cells8; have lB := HB2.out.lt; obtain ⟨s0, s1, s2, s3, s4, s5, s6, s7⟩ := HG2.out.cells8; have lS := HG2.out.lt; clear hi2 hf2)
      | (go_at_call 30; go_loud (refine (given_st x A0 A1 A2 A3 c0 c1 c2 c3 e0 e1 e2 e3 _ (HK.out.fr0 HF.out) HL.out).mono ?_); rintro e w1 ⟨B0, B1, B2, B3, d0, d1, d2, d3, rfl, hs1, hf1⟩; have HS1 := Lib.hid hs1; have HF1 := Lib.hid (HF.out.trans hf1); have HB1 := Lib.hid ((HB.out.fr hf1 (fun h => h)).alloc (Obj.cells (x.cells B0 B1 B2 B3 d0 d1 d2 d3).toArray 67)); have HG1 := Lib.hid (Blk.new w1 67 (x.cells B0 B1 B2 B3 d0 d1 d2 d3)); clear r0 r1 r2 r3 r4 r5 r6 r7 lB; obtain ⟨r0, r1, r2, r3, r4, r5, r6, r7⟩ := HB1.out.cells8; have lB := HB1.out.lt; obtain ⟨s0, s1, s2, s3, s4, s5, s6, s7⟩ := HG1.out.cells8; have lS := HG1.out.lt; clear hs1 hf1))
    refine wp_region_o [(0, 0), (2, 0), (1, 1), (3, 1), (4, 0), (5, 0), (6, 0), (7, 0), (8, 0), (9, 0), (10, 0), (11, 1), (13, 1), (12, 2), (14, 2), (15, 0), (16, 0)] (by kernel_rfl) (by kernel_rfl) ?_
    repeat (first
      | (apply wpO_pure rfl rfl; (focus (intro w'; go_simp; (try rfl); done)); try simp only [Act.put, List.setIfInBounds_toArray, List.set_cons_zero, List.set_cons_succ])
      | (apply wpO_read rfl rfl; (focus (intro w' hf' hs'; (try simp only [World.size_drew, World.cell?_drew, World.size_alloc, World.size_setCell] at hs'); go_simp; (try rfl); done)); try simp only [Act.put, List.setIfInBounds_toArray, List.set_cons_zero, List.set_cons_succ])
      | (apply wpO_skip (by decide) rfl rfl; try simp only [Act.put, List.setIfInBounds_toArray, List.set_cons_zero, List.set_cons_succ]))
    apply wpO_read rfl rfl
    (focus (intro w' hf' hs'; have hrd := run_str (c := c5) (BsIn.fr0 HI2'.out ((Fr.refl No w3).drew.trans hf')).sl; go_simp; (try rfl); done))
    try simp only [Act.put, List.setIfInBounds_toArray, List.set_cons_zero, List.set_cons_succ]
    apply wpO_read rfl rfl
    (focus (intro w' hf' hs'; have hrd := run_str (c := c6) (BsIn.fr0 HI3.out ((Fr.refl No w3).drew.trans hf')).sl; go_simp; (try rfl); done))
    try simp only [Act.put, List.setIfInBounds_toArray, List.set_cons_zero, List.set_cons_succ]
    repeat (first
      | (apply wpO_pure rfl rfl; (focus (intro w'; go_simp; (try rfl); done)); try simp only [Act.put, List.setIfInBounds_toArray, List.set_cons_zero, List.set_cons_succ])
      | (apply wpO_read rfl rfl; (focus (intro w' hf' hs'; (try simp only [World.size_drew, World.cell?_drew, World.size_alloc, World.size_setCell] at hs'); go_simp; (try rfl); done)); try simp only [Act.put, List.setIfInBounds_toArray, List.set_cons_zero, List.set_cons_succ])
      | (apply wpO_skip (by decide) rfl rfl; try simp only [Act.put, List.setIfInBounds_toArray, List.set_cons_zero, List.set_cons_succ]))
    refine wpO_loudE rfl fun K hK => ?_
    go_simp
    refine (taken_st x B0 B1 B2 B3 d0 d1 d2 d3 _ _ _ _ _ (HS3.out.fr0 (Fr.refl No w3).drew) HL.out).mono ?_
    rintro e w4 ⟨C0, C1, C2, C3, k0, k1, k2, k3, rfl, hs4, hf4⟩
    refine hK _ _ ⟨hf4, ?_⟩
    clear hK K
    have HS4 := Lib.hid hs4
    have HF4 := Lib.hid (HF3.out.drew.trans hf4)
    have HB4 := Lib.hid (HB3.out.drew.fr hf4 (fun h => h))
    have HI4 := Lib.hid (HI3.out.fr0 ((Fr.refl No w3).drew.trans hf4))
    clear hs4 hf4
    clear r0 r1 r2 r3 r4 r5 r6 r7 lB s0 s1 s2 s3 s4 s5 s6 s7 lS
    repeat (first
      | (apply wpO_pure rfl rfl; (focus (intro w'; go_simp; (try rfl); done)); try simp only [Act.put, List.setIfInBounds_toArray, List.set_cons_zero, List.set_cons_succ])
      | (apply wpO_read rfl rfl; (focus (intro w' hf' hs'; (try simp only [World.size_drew, World.cell?_drew, World.size_alloc, World.size_setCell] at hs'); go_simp; (try rfl); done)); try simp only [Act.put, List.setIfInBounds_toArray, List.set_cons_zero, List.set_cons_succ])
      | (apply wpO_skip (by decide) rfl rfl; try simp only [Act.put, List.setIfInBounds_toArray, List.set_cons_zero, List.set_cons_succ]))
    refine wpO_loudE rfl fun K hK => ?_
    go_simp
    refine (sameSt_any x C0 C1 C2 C3 A0 A1 A2 A3 k0 k1 k2 k3 c0 c1 c2 c3 _ _ _ _ _ _ _ _ _ HS4.out (HK.out.fr0 HF4.out) HL.out).mono ?_
    rintro e w5 ⟨rfl, hf5⟩
    refine hK _ _ ⟨hf5, ?_⟩
    clear hK K
    have HF5 := Lib.hid (HF4.out.trans hf5)
    have HB5 := Lib.hid (HB4.out.fr hf5 (fun h => h))
    have HI5 := Lib.hid (HI4.out.fr0 hf5)
    clear hf5
    repeat (first
      | (apply wpO_pure rfl rfl; (focus (intro w'; go_simp; (try rfl); done)); try simp only [Act.put, List.setIfInBounds_toArray, List.set_cons_zero, List.set_cons_succ])
      | (apply wpO_read rfl rfl; (focus (intro w' hf' hs'; (try simp only [World.size_drew, World.cell?_drew, World.size_alloc, World.size_setCell] at hs'); go_simp; (try rfl); done)); try simp only [Act.put, List.setIfInBounds_toArray, List.set_cons_zero, List.set_cons_succ])
      | (apply wpO_skip (by decide) rfl rfl; try simp only [Act.put, List.setIfInBounds_toArray, List.set_cons_zero, List.set_cons_succ]))
    refine wpO_nil ?_
    go_wp2_with (go_at_call 35; go_loud (refine (HGE.out A6 c6 _ HI5.out).mono ?_); rintro e w6 ⟨D0, D1, D2, D3, j0, j1, j2, j3, rfl, hs6, hf6⟩; have HS6 := Lib.hid hs6; have HF6 := Lib.hid (HF5.out.trans hf6); have HB6 := Lib.hid (HB5.out.fr hf6 (fun h => h)); clear hs6 hf6)
    have HG6 := Lib.hid (Blk.new w6 67 (x.cells D0 D1 D2 D3 j0 j1 j2 j3))
    have HF7 := Lib.hid (HF6.out.alloc (Obj.cells (x.cells D0 D1 D2 D3 j0 j1 j2 j3).toArray 67))
    have HS7 := Lib.hid (HS6.out.fr0 ((Fr.refl No w6).alloc (Obj.cells (x.cells D0 D1 D2 D3 j0 j1 j2 j3).toArray 67)))
    obtain ⟨r0, r1, r2, r3, r4, r5, r6, r7⟩ := HB6.out.cells8; have lB := HB6.out.lt; obtain ⟨s0, s1, s2, s3, s4, s5, s6, s7⟩ := HG6.out.cells8; have lS := HG6.out.lt
    refine wp_region_o [(0, 0), (1, 0), (2, 0), (3, 0), (4, 0), (5, 0), (6, 0), (7, 0), (8, 1), (10, 1), (9, 2), (11, 2), (12, 0), (13, 0), (14, 2), (15, 0), (16, 0)] (by kernel_rfl) (by kernel_rfl) ?_
    repeat (first
      | (apply wpO_pure rfl rfl; (focus (intro w'; go_simp; (try rfl); done)); try simp only [Act.put, List.setIfInBounds_toArray, List.set_cons_zero, List.set_cons_succ])
      | (apply wpO_read rfl rfl; (focus (intro w' hf' hs'; (try simp only [World.size_drew, World.cell?_drew, World.size_alloc, World.size_setCell] at hs'); go_simp; (try rfl); done)); try simp only [Act.put, List.setIfInBounds_toArray, List.set_cons_zero, List.set_cons_succ])
      | (apply wpO_skip (by decide) rfl rfl; try simp only [Act.put, List.setIfInBounds_toArray, List.set_cons_zero, List.set_cons_succ]))
    refine wpO_loudE rfl fun K hK => ?_
    go_simp
    refine (taken_st x D0 D1 D2 D3 j0 j1 j2 j3 _ _ _ _ _ (HS7.out.fr0 (Fr.refl No _).drew) HL.out).mono ?_
    rintro e w8 ⟨C4, C5, C6, C7, k4, k5, k6, k7, rfl, hs8, hf8⟩
    refine hK _ _ ⟨hf8, ?_⟩
    clear hK K
    have HS8 := Lib.hid hs8
    have HF8 := Lib.hid (HF7.out.drew.trans hf8)
    clear hs8 hf8
    clear r0 r1 r2 r3 r4 r5 r6 r7 lB s0 s1 s2 s3 s4 s5 s6 s7 lS
    repeat (first
      | (apply wpO_pure rfl rfl; (focus (intro w'; go_simp; (try rfl); done)); try simp only [Act.put, List.setIfInBounds_toArray, List.set_cons_zero, List.set_cons_succ])
      | (apply wpO_read rfl rfl; (focus (intro w' hf' hs'; (try simp only [World.size_drew, World.cell?_drew, World.size_alloc, World.size_setCell] at hs'); go_simp; (try rfl); done)); try simp only [Act.put, List.setIfInBounds_toArray, List.set_cons_zero, List.set_cons_succ])
      | (apply wpO_skip (by decide) rfl rfl; try simp only [Act.put, List.setIfInBounds_toArray, List.set_cons_zero, List.set_cons_succ]))
    refine wpO_loudE rfl fun K hK => ?_
    go_simp
    refine (sameSt_any x C4 C5 C6 C7 A0 A1 A2 A3 k4 k5 k6 k7 c0 c1 c2 c3 _ _ _ _ _ _ _ _ _ HS8.out (HK.out.fr0 HF8.out) HL.out).mono ?_
    rintro e w9 ⟨rfl, hf9⟩
    refine hK _ _ ⟨hf9, ?_⟩
    clear hK K
    have HF9 := Lib.hid (HF8.out.trans hf9)
    clear hf9
    repeat (first
      | (apply wpO_pure rfl rfl; (focus (intro w'; go_simp; (try rfl); done)); try simp only [Act.put, List.setIfInBounds_toArray, List.set_cons_zero, List.set_cons_succ])
      | (apply wpO_read rfl rfl; (focus (intro w' hf' hs'; (try simp only [World.size_drew, World.cell?_drew, World.size_alloc, World.size_setCell] at hs'); go_simp; (try rfl); done)); try simp only [Act.put, List.setIfInBounds_toArray, List.set_cons_zero, List.set_cons_succ])
      | (apply wpO_skip (by decide) rfl rfl; try simp only [Act.put, List.setIfInBounds_toArray, List.set_cons_zero, List.set_cons_succ]))
    refine wpO_loudE rfl fun K hK => ?_
    go_simp
    refine (codKnown_any _).mono ?_
    rintro e w10 ⟨rfl, hf10⟩
    refine hK _ _ ⟨hf10, ?_⟩
    clear hK K
    have HF10 := Lib.hid (HF9.out.trans hf10)
    clear hf10
    repeat (first
      | (apply wpO_pure rfl rfl; (focus (intro w'; go_simp; (try rfl); done)); try simp only [Act.put, List.setIfInBounds_toArray, List.set_cons_zero, List.set_cons_succ])
      | (apply wpO_read rfl rfl; (focus (intro w' hf' hs'; (try simp only [World.size_drew, World.cell?_drew, World.size_alloc, World.size_setCell] at hs'); go_simp; (try rfl); done)); try simp only [Act.put, List.setIfInBounds_toArray, List.set_cons_zero, List.set_cons_succ])
      | (apply wpO_skip (by decide) rfl rfl; try simp only [Act.put, List.setIfInBounds_toArray, List.set_cons_zero, List.set_cons_succ]))
    refine wpO_nil ?_
    go_wp2
    go_ret
    exact ⟨rfl, HF10.out⟩
end Go.Proofs.Ytegogggemmcgdaa

/- CodecCut: the walk. -/
namespace Go.Proofs.Ytegogggemmcgdaa
open Go Go.RowKit Go.Proofs

theorem putEv_cases (x : EvS) : (putEvE x = 3 ∧ putEvL x = []) ∨ (putEvE x = 0 ∧ putEvL x = evAll x ∧ evBad x = false ∧ (evAll x).length ≤ 60000 ∧ 0 < (evAll x).length) := by
  unfold putEvE putEvL
  cases hb : evBad x
  · obtain ⟨h1, h2⟩ := evBad_no hb
    refine .inr ⟨rfl, rfl, rfl, ?_, ?_⟩ <;> rw [evAll_tail, List.length_cons]
    · rw [evTail_length]; omega
    · omega
  · exact .inl ⟨rfl, rfl⟩
theorem BsIn.take {w : World} {A : Option Addr} {c : Nat} {e : TypeId} {l : Bs} (h : BsIn w A c e l) (i : Nat) (hi : i ≤ l.length) : BsIn w A c e (l.take i) := by
  have hl : (l.take i).length = i := by rw [List.length_take]; omega
  refine ⟨⟨?_, fun hn => ?_⟩, h.below, by rw [hl]; have := h.cap; omega, by rw [hl]; have := h.most; omega⟩
  · rw [enc8_length, Nat.mul_one]
  · rw [hl] at hn
    obtain ⟨b, o, cur, fr, hA, hb, hx⟩ := h.sl.2 (by omega)
    refine ⟨b, o, cur, fr, hA, hb, fun j u hu => hx j u ?_⟩
    unfold enc8 at hu ⊢
    rw [List.map_take, List.getElem?_take] at hu
    split at hu
    · exact hu
    · cases hu
theorem count_nat (n : Int) {k : Nat} (hk : 0 < k) : ∃ i : Nat, i < k ∧ countI n k = (i : Int) := by
  have h1 := Int.emod_nonneg n (show (k : Int) ≠ 0 by omega)
  have h2 := Int.emod_lt_of_pos n (show (0 : Int) < (k : Int) by omega)
  refine ⟨(n % (k : Int)).toNat, by omega, ?_⟩
  unfold countI
  rw [if_neg (by omega)]
  omega
def EvEnds (er : Int) (w : World) (e : Ending) (w' : World) : Prop := ∃ (y : EvS) (A : Option Addr) (c : Nat), e = .returned (.tuple #[y.agg A c, .int .i64 er]) ∧ Fr No w w'
def StEnds (er : Int) (w : World) (e : Ending) (w' : World) : Prop := ∃ (s : ByteArray) (y : StS) (A0 A1 A2 A3 : Option Addr) (c0 c1 c2 c3 : Nat), e = .returned (.tuple #[.string s, y.agg A0 A1 A2 A3 c0 c1 c2 c3, .int .i64 er]) ∧ Fr No w w'
theorem getEv_ends {l : Bs} {er : Int} (h : (getEvS l).2 = er) {n : Nat} (hn : l.length = n) (A : Option Addr) (c : Nat) (w : World) (hb : BsIn w A c 5 l) : Calls Try.prog 29 #[.slice A n c] w (EvEnds er w) := by
  subst hn h
  refine (getEvent_any A c 5 l w hb).mono ?_
  rintro e w' ⟨A', c', rfl, _, hf⟩
  exact ⟨_, A', c', rfl, hf⟩
theorem getSt_ends {l : Bs} {er : Int} (h : (getStS l).2.2 = er) {n : Nat} (hn : l.length = n) (A : Option Addr) (c : Nat) (w : World) (hb : BsIn w A c 5 l) : Calls Try.prog 35 #[.slice A n c] w (StEnds er w) := by
  subst hn h
  refine (getState_any A c 5 l w hb).mono ?_
  rintro e w' ⟨A0, A1, A2, A3, c0, c1, c2, c3, rfl, _, hf⟩
  exact ⟨_, _, A0, A1, A2, A3, c0, c1, c2, c3, rfl, hf⟩
set_option maxRecDepth 100000 in
set_option maxHeartbeats 4000000 in
theorem codecCut_walk (ev : EvS) (A : Option Addr) (c : Nat) (et : TypeId) (source : ByteArray) (x : StS) (C0 C1 C2 C3 : Option Addr) (k0 k1 k2 k3 : Nat) (e0 e1 e2 e3 : TypeId) (n : Int) (w : World)
    (hev : EvOk ev) (hk : Sl w et 1 A ev.keep.length (ev.keep.flatMap fun x => [Value.int .i64 x])) (hm : ev.keep.length * 8 ≤ 140737488355328) (hx : ev.name.size ≤ 140737488355328)
    (hi : StI x) (hks : StSl w x C0 C1 C2 C3 e0 e1 e2 e3) (hL : StLen x) (hok : StOk source x) (hn : I64 n) :
    Calls Try.prog 8 #[ev.agg A c, .string source, x.agg C0 C1 C2 C3 k0 k1 k2 k3, .int .i64 n] w fun e w' => e = .returned (.bool true) ∧ Fr No w w' := by
  have HK := Lib.hid hk
  have HKS := Lib.hid hks
  have HLS := Lib.hid hL
  have HM := Lib.hid (show ev.keep.length ≤ maxLen by simp only [maxLen]; omega)
  have HB := Lib.hid (Blk.new (w.alloc (Obj.cells (ev.cells A c).toArray 49)) 62 (x.cells C0 C1 C2 C3 k0 k1 k2 k3))
  rw [show (w.alloc (Obj.cells (ev.cells A c).toArray 49)).heap.size = w.heap.size + 1 by simp] at HB
  have HF := Lib.hid (((Fr.refl No w).alloc (Obj.cells (ev.cells A c).toArray 49)).alloc (Obj.cells (x.cells C0 C1 C2 C3 k0 k1 k2 k3).toArray 62))
  obtain ⟨pl, hpl⟩ : ∃ pl, pl = putEvL ev := ⟨_, rfl⟩
  obtain ⟨pe, hpe⟩ : ∃ pe, pe = putEvE ev := ⟨_, rfl⟩
  obtain ⟨sl, hsl⟩ : ∃ sl, sl = putStL source x := ⟨_, rfl⟩
  obtain ⟨se, hse⟩ : ∃ se, se = putStE source x := ⟨_, rfl⟩
  have HPE := putEv_cases ev
  have HSE := putSt_cases source x
  rw [← hpl, ← hpe] at HPE
  rw [← hsl, ← hse] at HSE
  have HPV : Hid (∀ A c et w, Sl w et 1 A ev.keep.length (ev.keep.flatMap fun x => [Value.int .i64 x]) → Calls Try.prog 25 #[ev.agg A c] w (PutEv pl pe w)) := Lib.hid (fun A c et w h => by rw [hpl, hpe]; exact putEv_p ev A c et w h HM.out hx)
  have HPS : Hid (∀ A0 A1 A2 A3 c0 c1 c2 c3 e0 e1 e2 e3 w, StSl w x A0 A1 A2 A3 e0 e1 e2 e3 → Calls Try.prog 31 #[.string source, x.agg A0 A1 A2 A3 c0 c1 c2 c3] w (PutEv sl se w)) := Lib.hid (by
    intro A0 A1 A2 A3 c0 c1 c2 c3 e0 e1 e2 e3 w h
    rw [hsl, hse]; exact putSt_p source x A0 A1 A2 A3 c0 c1 c2 c3 _ _ _ _ w h hok)
  clear hk hks hL hok hm hx hpl hpe hsl hse
  rcases HPE with ⟨rfl, hpz⟩ | ⟨rfl, hpa, hebad, hpl1, hpl0⟩
  · clear hpz
    rcases HSE with ⟨rfl, hsz⟩ | ⟨rfl, hsz⟩
    all_goals
      clear hsz
      go_enter Try.func8, Try.ntmps8
      go_wp2_with (first
        | (go_at_call 28; go_loud (refine (codKnown_any _).mono ?_); rintro e w7 ⟨rfl, hf7⟩; have HF7 := Lib.hid (HF3.out.trans hf7); clear hf7)
          | (go_at_call 31; go_loud (refine (HPS.out B0 B1 B2 B3 d0 d1 d2 d3 _ _ _ _ _ HS2.out).mono ?_); rintro e w3 ⟨A3, c3, rfl, hi3, hf3⟩; have HF3 := Lib.hid (HF2.out.trans hf3); have HI3 := Lib.hid hi3; have HI1' := Lib.hid (HI2.out.fr0 hf3); clear hi3 hf3; skip)
          | (go_at_call 30; go_loud (refine (given_st x C0 C1 C2 C3 k0 k1 k2 k3 e0 e1 e2 e3 _ (HKS.out.fr0 HF1.out) HLS.out).mono ?_); rintro e w2 ⟨B0, B1, B2, B3, d0, d1, d2, d3, rfl, hs2, hf2⟩; have HS2 := Lib.hid hs2; have HF2 := Lib.hid (HF1.out.trans hf2); have HI2 := Lib.hid (HI1.out.fr0 hf2); clear hs2 hf2 r0 r1 r2 r3 r4 r5 r6 r7 lB)
          | (go_at_call 25; go_loud (refine (HPV.out A c _ _ (HK.out.fr0 HF.out)).mono ?_); rintro e w1 ⟨A1, c1, rfl, hi1, hf1⟩; have HF1 := Lib.hid (HF.out.trans hf1); have HI1 := Lib.hid hi1; have HB1 := Lib.hid (HB.out.fr hf1 (fun h => h)); clear hi1 hf1; obtain ⟨r0, r1, r2, r3, r4, r5, r6, r7⟩ := HB1.out.cells8; have lB := HB1.out.lt)
        )
      go_ret
      exact ⟨rfl, HF7.out⟩
  · rcases HSE with ⟨rfl, hsz⟩ | ⟨rfl, hsa, hlarge, hln⟩
    · clear hsz hpa hebad hpl1 hpl0
      go_enter Try.func8, Try.ntmps8
      go_wp2_with (first
        | (go_at_call 28; go_loud (refine (codKnown_any _).mono ?_); rintro e w7 ⟨rfl, hf7⟩; have HF7 := Lib.hid (HF3.out.trans hf7); clear hf7)
          | (go_at_call 31; go_loud (refine (HPS.out B0 B1 B2 B3 d0 d1 d2 d3 _ _ _ _ _ HS2.out).mono ?_); rintro e w3 ⟨A3, c3, rfl, hi3, hf3⟩; have HF3 := Lib.hid (HF2.out.trans hf3); have HI3 := Lib.hid hi3; have HI1' := Lib.hid (HI2.out.fr0 hf3); clear hi3 hf3; skip)
          | (go_at_call 30; go_loud (refine (given_st x C0 C1 C2 C3 k0 k1 k2 k3 e0 e1 e2 e3 _ (HKS.out.fr0 HF1.out) HLS.out).mono ?_); rintro e w2 ⟨B0, B1, B2, B3, d0, d1, d2, d3, rfl, hs2, hf2⟩; have HS2 := Lib.hid hs2; have HF2 := Lib.hid (HF1.out.trans hf2); have HI2 := Lib.hid (HI1.out.fr0 hf2); clear hs2 hf2 r0 r1 r2 r3 r4 r5 r6 r7 lB)
          | (go_at_call 25; go_loud (refine (HPV.out A c _ _ (HK.out.fr0 HF.out)).mono ?_); rintro e w1 ⟨A1, c1, rfl, hi1, hf1⟩; have HF1 := Lib.hid (HF.out.trans hf1); have HI1 := Lib.hid hi1; have HB1 := Lib.hid (HB.out.fr hf1 (fun h => h)); clear hi1 hf1; obtain ⟨r0, r1, r2, r3, r4, r5, r6, r7⟩ := HB1.out.cells8; have lB := HB1.out.lt)
        )
      go_ret
      exact ⟨rfl, HF7.out⟩
    · rw [← hpa] at hpl1 hpl0
      rw [← hsa] at hln
      have hsl0 : 0 < sl.length := by rw [hsa, stAll_tail]; simp
      obtain ⟨i, hi1, hct⟩ := count_nat n hpl0
      obtain ⟨j, hj1, hcs⟩ := count_nat n hsl0
      have hg1 := getEv_cut ev hev hebad (k := i) (by rw [← hpa]; exact hi1)
      have hg2 := getSt_cut source x hi hlarge (k := j) (by rw [← hsa]; exact hj1)
      have hg3 := getEv_other source x
      have hg4 := getSt_other ev
      rw [← hpa] at hg1 hg4
      rw [← hsa] at hg2 hg3
      have HG3 := Lib.hid (fun A c w h => getEv_ends hg3 (n := sl.length) rfl A c w h)
      have HG4 := Lib.hid (fun A c w h => getSt_ends hg4 (n := pl.length) rfl A c w h)
      have hp0 : (0 : Int) < (pl.length : Int) := by omega
      have hp1 : (pl.length : Int) ≤ 60000 := by omega
      have hs0 : (0 : Int) < (sl.length : Int) := by omega
      have hs1 : (sl.length : Int) ≤ 60000 := by omega
      have hpz : ((pl.length : Int) == 0) = false := by rw [beq_eq_false_iff_ne]; omega
      have hsz : ((sl.length : Int) == 0) = false := by rw [beq_eq_false_iff_ne]; omega
      have hp6 : pl ≠ [] := by intro e; rw [e] at hpl0; simp at hpl0
      have hs6 : sl ≠ [] := by intro e; rw [e] at hsl0; simp at hsl0
      have HCT := Lib.hid hct
      have HCS := Lib.hid hcs
      have HI := Lib.hid hi1
      have HJ := Lib.hid hj1
      have HPL0 := Lib.hid hpl0
      have HSL0 := Lib.hid hsl0
      have HN0 := Lib.hid hn.1
      have HN1 := Lib.hid hn.2
      clear hct hcs hpl0 hsl0 hn hebad hpl1 hpa hlarge hln hsa hev hi hg3 hg4
      rcases hg1 with hg1 | hg1 <;> rcases hg2 with hg2 | hg2
      all_goals
        have HG1 := Lib.hid (fun A c w h => getEv_ends hg1 (n := i) (by rw [List.length_take]; have := HI.out; omega) A c w h)
        have HG2 := Lib.hid (fun A c w h => getSt_ends hg2 (n := j) (by rw [List.length_take]; have := HJ.out; omega) A c w h)
        clear hg1 hg2 hi1 hj1
        go_enter Try.func8, Try.ntmps8
        go_wp2_with (first
          | (have _t := HF9; go_at_call 28; go_loud (refine (codKnown_any _).mono ?_); rintro e w10 ⟨rfl, hf10⟩; have HF10 := Lib.hid ((HF9.out.alloc _).trans hf10); clear hf10)
          | (have _t := HF8; go_at_call 35; go_loud (refine (HG4.out (some ⟨g1, o1, none⟩) c1 _ (HI1'.out.fr0 (HZ8.out.alloc _))).mono ?_); rintro e w9 ⟨s9, y9, D0, D1, D2, D3, q0, q1, q2, q3, rfl, hf9⟩; have HF9 := Lib.hid ((HF8.out.alloc _).trans hf9); clear hf9)
          | (have _t := HF7; go_at_call 29; go_loud (refine (HG3.out (some ⟨g3, o3, none⟩) c3 _ (HI3.out.fr0 (HZ7.out.alloc _))).mono ?_); rintro e w8 ⟨y8, A8, c8, rfl, hf8⟩; have HF8 := Lib.hid ((HF7.out.alloc _).trans hf8); have HZ8 := Lib.hid ((HZ7.out.alloc _).trans hf8); clear hf8)
          | (have _t := HF6; go_at_call 35; go_loud (refine (HG2.out (some ⟨g3, o3, none⟩) c3 _ (BsIn.take (HI3.out.fr0 HZ6.out) j (Nat.le_of_lt HJ.out))).mono ?_); rintro e w7 ⟨s7, y7, D0, D1, D2, D3, q0, q1, q2, q3, rfl, hf7⟩; have HF7 := Lib.hid (HF6.out.trans hf7); have HZ7 := Lib.hid (HZ6.out.trans hf7); clear hf7)
          | (have _t := HF5; go_at_call 16; go_loud (refine (count_any n (sl.length : Int) _ HN0.out HN1.out hs0 (by omega)).mono ?_); rintro e w6 ⟨rfl, hf6⟩; rw [HCS.out]; have HF6 := Lib.hid ((HF5.out.alloc _).trans hf6); have HZ6 := Lib.hid ((HZ5.out.alloc _).trans hf6); clear hf6)
          | (have _t := HF4; go_at_call 29; go_loud (refine (HG1.out (some ⟨g1, o1, none⟩) c1 _ (BsIn.take (HI1'.out.fr0 HZ4.out) i (Nat.le_of_lt HI.out))).mono ?_); rintro e w5 ⟨y5, A5, c5, rfl, hf5⟩; have HF5 := Lib.hid (HF4.out.trans hf5); have HZ5 := Lib.hid (HZ4.out.trans hf5); clear hf5)
          | (go_at_call 16; go_loud (refine (count_any n (pl.length : Int) _ HN0.out HN1.out hp0 (by omega)).mono ?_); rintro e w4 ⟨rfl, hf4⟩; rw [HCT.out]; have HF4 := Lib.hid (HF3.out.trans hf4); have HZ4 := Lib.hid hf4; clear hf4)
            | (go_at_call 31; go_loud (refine (HPS.out B0 B1 B2 B3 d0 d1 d2 d3 _ _ _ _ _ HS2.out).mono ?_); rintro e w3 ⟨A3, c3, rfl, hi3, hf3⟩; have HF3 := Lib.hid (HF2.out.trans hf3); have HI3 := Lib.hid hi3; have HI1' := Lib.hid (HI2.out.fr0 hf3); clear hi3 hf3; obtain ⟨g1, o1, hA1⟩ := some_of' HI1'.out.sl HPL0.out; subst hA1; obtain ⟨g3, o3, hA3⟩ := some_of' HI3.out.sl HSL0.out; subst hA3; have hsA : ∀ w, (Instr.slice 50 (.slice (some ⟨g1, o1, none⟩) pl.length c1) none (some (.int .i64 (i : Int))) none).run Try.prog w = .ok (.slice (some ⟨g1, o1, none⟩) i c1) w := fun w => slice_h0 .i64 i (by have := HI1'.out.cap; have := HI.out; omega) w; have hsC : ∀ w, (Instr.slice 50 (.slice (some ⟨g3, o3, none⟩) sl.length c3) none (some (.int .i64 (j : Int))) none).run Try.prog w = .ok (.slice (some ⟨g3, o3, none⟩) j c3) w := fun w => slice_h0 .i64 j (by have := HI3.out.cap; have := HJ.out; omega) w)
            | (go_at_call 30; go_loud (refine (given_st x C0 C1 C2 C3 k0 k1 k2 k3 e0 e1 e2 e3 _ (HKS.out.fr0 HF1.out) HLS.out).mono ?_); rintro e w2 ⟨B0, B1, B2, B3, d0, d1, d2, d3, rfl, hs2, hf2⟩; have HS2 := Lib.hid hs2; have HF2 := Lib.hid (HF1.out.trans hf2); have HI2 := Lib.hid (HI1.out.fr0 hf2); clear hs2 hf2 r0 r1 r2 r3 r4 r5 r6 r7 lB)
            | (go_at_call 25; go_loud (refine (HPV.out A c _ _ (HK.out.fr0 HF.out)).mono ?_); rintro e w1 ⟨A1, c1, rfl, hi1, hf1⟩; have HF1 := Lib.hid (HF.out.trans hf1); have HI1 := Lib.hid hi1; have HB1 := Lib.hid (HB.out.fr hf1 (fun h => h)); clear hi1 hf1; obtain ⟨r0, r1, r2, r3, r4, r5, r6, r7⟩ := HB1.out.cells8; have lB := HB1.out.lt)
          )
        go_ret
        exact ⟨rfl, HF10.out⟩
end Go.Proofs.Ytegogggemmcgdaa

/- CodecGets: the walk. -/
namespace Go.Proofs.Ytegogggemmcgdaa
open Go Go.RowKit Go.Proofs

def EvGot (x : EvS) (er : Int) (w : World) (e : Ending) (w' : World) : Prop := ∃ A c, e = .returned (.tuple #[x.agg A c, .int .i64 er]) ∧ Sl w' 3 1 A x.keep.length (x.keep.flatMap encI) ∧ Fr No w w'
def StGot (s : ByteArray) (x : StS) (er : Int) (t0 t1 t2 t3 : TypeId) (w : World) (e : Ending) (w' : World) : Prop :=
  ∃ A0 A1 A2 A3 c0 c1 c2 c3, e = .returned (.tuple #[.string s, x.agg A0 A1 A2 A3 c0 c1 c2 c3, .int .i64 er]) ∧ StSl w' x A0 A1 A2 A3 t0 t1 t2 t3 ∧ Fr No w w'
theorem rgetSt_any (A : Option Addr) (c : Nat) (e : TypeId) (l : Bs) (w : World) (h : BsIn w A c e l) : Calls Try.prog 38 #[.slice A l.length c] w (GetStR (getStS l) w) := by
  cases hl : l with
  | nil => rw [getStS_nil]; exact rgetSt_nil A c w
  | cons b0 r =>
    rw [← hl]
    have hpos : 0 < l.length := by rw [hl]; simp
    obtain ⟨g, o, hAg⟩ := some_of' h.sl hpos
    subst hAg
    rw [show getStS l = finSt (stS (openS b0 r 87)) by rw [hl]; exact getStS_fin b0 r]
    exact rgetSt_cons g o c e b0 r l hl w h
set_option maxRecDepth 100000 in
theorem refGetEvent_nil (A : Option Addr) (c : Nat) (w : World) : Calls Try.prog 37 #[.slice A 0 c] w (GetEvW (EvS.zero, 10) w) := by
  have HB := Lib.hid (Blk.new w 49 zeroEv)
  have HF := Lib.hid ((Fr.refl No w).alloc (Obj.cells (zeroEv).toArray 49))
  go_enter Try.func37, Try.ntmps37
  go_wp2
  exact bodyPost_ret (rgev_res (x := EvS.zero) (A := none) (c := 0) (e := 10) HB.out rfl rfl) rfl ⟨none, 0, rfl, World.ownsRow_nil _ _ _ _, HF.out⟩
/-- the bytes that came in: none, or bytes in a block that is there -/
structure BsI (w : World) (A : Option Addr) (c : Nat) (e : TypeId) (l : Bs) : Prop where
  sl : Sl w e 1 A l.length (enc8 l)
  cap : l.length ≤ c
  below : l = [] ∨ ∀ a, A = some a → a.block < w.heap.size
theorem BsI.fr0 {w w' : World} {A : Option Addr} {c : Nat} {e : TypeId} {l : Bs} (h : BsI w A c e l) (hf : Fr No w w') : BsI w' A c e l :=
  ⟨h.sl.fr0 hf, h.cap, h.below.imp id (fun hb a ha => Nat.lt_of_lt_of_le (hb a ha) hf.size)⟩
theorem refEv_in (A : Option Addr) (c : Nat) (e : TypeId) (l : Bs) (w : World) (h : BsI w A c e l) (hm : l.length ≤ maxLen) : Calls Try.prog 37 #[.slice A l.length c] w (GetEvW (getEvT l) w) := by
  rcases h.below with rfl | hb
  · exact refGetEvent_nil A c w
  · exact refGetEvent_any A c e l w ⟨h.sl, hb, h.cap, hm⟩
theorem refSt_in (A : Option Addr) (c : Nat) (e : TypeId) (l : Bs) (w : World) (h : BsI w A c e l) (hm : l.length ≤ maxLen) : Calls Try.prog 38 #[.slice A l.length c] w (GetStR (getStS l) w) := by
  rcases h.below with rfl | hb
  · rw [getStS_nil]; exact rgetSt_nil A c w
  · exact rgetSt_any A c e l w ⟨h.sl, hb, h.cap, hm⟩
theorem SU.lent {w w' : World} {base g c : Nat} {l : Bs} (h : LentAt w base g c l) : g < w.heap.size := h.base.2
theorem LentAt.bsIn {w : World} {base g c : Nat} {l : Bs} (h : LentAt w base g c l) (hm : l.length ≤ maxLen) : BsIn w (some ⟨g, 0, none⟩) c 5 l :=
  ⟨h.sl, fun a ha => by injection ha with ha; subst ha; exact h.base.2, by have := h.cap; omega, hm⟩
theorem evKeep_len (l : Bs) : (getEvS l).1.keep.length ≤ 255 := by
  rcases getEv_cases l with ⟨_, h⟩ | ⟨_, _, h⟩
  · rw [h]; simp
  · exact (evBad_no h).2
theorem evName_len (l : Bs) : (getEvS l).1.name.size ≤ 255 := by
  rcases getEv_cases l with ⟨_, h⟩ | ⟨_, _, h⟩
  · rw [h]; exact Nat.zero_le _
  · exact (evBad_no h).1
theorem st_len (l : Bs) : ((getStS l).2.1.jobs.length ≤ 4096 ∧ (getStS l).2.1.conds.length ≤ 4096 ∧ (getStS l).2.1.res.length ≤ 4096 ∧ (getStS l).2.1.held.length ≤ 4096 ∧ (getStS l).1.size ≤ 8192) ∧
    (∀ y ∈ (getStS l).2.1.conds, y.name.size ≤ 255) ∧ (∀ y ∈ (getStS l).2.1.res, y.name.size ≤ 255) ∧ (∀ y ∈ (getStS l).2.1.held, y.name.size ≤ 255) := by
  rcases getSt_cases l with ⟨_, h0, h⟩ | ⟨_, _, h, _⟩
  · rw [h, h0]
    refine ⟨⟨by simp, by simp, by simp, by simp, Nat.zero_le _⟩, by simp, by simp, by simp⟩
  · obtain ⟨⟨h1, h2, h3, h4, h5⟩, h6⟩ := largeB_no h
    exact ⟨⟨h2, h3, h4, h5, h1⟩, h6⟩
theorem putEv_of {x : EvS} {l : Bs} (h : evAll x = l) (hb : evBad x = false) : putEvL x = l ∧ putEvE x = 0 := by
  unfold putEvL putEvE
  rw [hb]
  exact ⟨by simp [h], rfl⟩
theorem putSt_of {s : ByteArray} {x : StS} {l : Bs} (h : stAll s x = l) (hb : largeB s x = false) (hl : l.length ≤ 60000) : putStL s x = l ∧ putStE s x = 0 := by
  unfold putStL putStE
  rw [hb, h]
  have := cutB_fit (l := l) (by omega)
  exact ⟨by simp [this.1], by simp [this.2]⟩
/-- what lies in memory ahead of the questions -/
structure GW (w0 : World) (g : Nat) (c : Nat) (l : Bs) (x : EvS) (y : StS) (X4 Y4 X9 Y9 : Nat) (A1 A2 : Option Addr) (k1 k2 : Nat) (B0 B1 B2 B3 C0 C1 C2 C3 : Option Addr) (p0 p1 p2 p3 q0 q1 q2 q3 : Nat) (A : Option Addr) (ca : Nat) (e : TypeId) (w : World) : Prop where
  lent : LentAt w w0.heap.size g c l
  base : w0.heap.size ≤ g
  x4 : Blk w X4 49 (x.cells A1 k1)
  y4 : Blk w Y4 49 (x.cells A2 k2)
  x9 : Blk w X9 67 (y.cells B0 B1 B2 B3 p0 p1 p2 p3)
  y9 : Blk w Y9 ST (y.cells C0 C1 C2 C3 q0 q1 q2 q3)
  k1 : Sl w 3 1 A1 x.keep.length (x.keep.flatMap encI)
  k2 : Sl w 3 1 A2 x.keep.length (x.keep.flatMap encI)
  s1 : StSl w y B0 B1 B2 B3 119 131 122 125
  s2 : StSl w y C0 C1 C2 C3 T0 T1 T2 T3
  inn : BsI w A ca e l
  fr : Fr No w0 w
theorem GW.fr0 {w0 w w' : World} {g c : Nat} {l : Bs} {x : EvS} {y : StS} {X4 Y4 X9 Y9 : Nat} {A1 A2 : Option Addr} {k1 k2 : Nat} {B0 B1 B2 B3 C0 C1 C2 C3 : Option Addr} {p0 p1 p2 p3 q0 q1 q2 q3 : Nat} {A : Option Addr} {ca : Nat} {e : TypeId}
    (h : GW w0 g c l x y X4 Y4 X9 Y9 A1 A2 k1 k2 B0 B1 B2 B3 C0 C1 C2 C3 p0 p1 p2 p3 q0 q1 q2 q3 A ca e w) (hf : Fr No w w') : GW w0 g c l x y X4 Y4 X9 Y9 A1 A2 k1 k2 B0 B1 B2 B3 C0 C1 C2 C3 p0 p1 p2 p3 q0 q1 q2 q3 A ca e w' :=
  ⟨h.lent.fr0 hf, h.base, h.x4.fr hf (fun h => h), h.y4.fr hf (fun h => h), h.x9.fr hf (fun h => h), h.y9.fr hf (fun h => h), h.k1.fr0 hf, h.k2.fr0 hf, h.s1.fr0 hf, h.s2.fr0 hf, h.inn.fr0 hf, h.fr.trans hf⟩
/-- what lies in memory behind Spoil -/
structure GX (w0 : World) (l : Bs) (x : EvS) (y : StS) (X4 X9 : Nat) (A1 : Option Addr) (k1 : Nat) (B0 B1 B2 B3 : Option Addr) (p0 p1 p2 p3 : Nat) (A : Option Addr) (ca : Nat) (e : TypeId) (w : World) : Prop where
  x4 : Blk w X4 49 (x.cells A1 k1)
  x9 : Blk w X9 67 (y.cells B0 B1 B2 B3 p0 p1 p2 p3)
  k1 : Sl w 3 1 A1 x.keep.length (x.keep.flatMap encI)
  s1 : StSl w y B0 B1 B2 B3 119 131 122 125
  sl : Sl w e 1 A l.length (enc8 l)
  fr : Fr No w0 w
section
variable {w0 w w' : World} {g c : Nat} {l : Bs} {x : EvS} {y : StS} {X4 Y4 X9 Y9 : Nat} {A1 A2 : Option Addr} {k1 k2 : Nat} {B0 B1 B2 B3 C0 C1 C2 C3 : Option Addr} {p0 p1 p2 p3 q0 q1 q2 q3 : Nat} {A : Option Addr} {ca : Nat} {e : TypeId}
theorem GX.fr0 (h : GX w0 l x y X4 X9 A1 k1 B0 B1 B2 B3 p0 p1 p2 p3 A ca e w) (hf : Fr No w w') : GX w0 l x y X4 X9 A1 k1 B0 B1 B2 B3 p0 p1 p2 p3 A ca e w' :=
  ⟨h.x4.fr hf (fun h => h), h.x9.fr hf (fun h => h), h.k1.fr0 hf, h.s1.fr0 hf, h.sl.fr0 hf, h.fr.trans hf⟩
theorem GW.spoil (h : GW w0 g c l x y X4 Y4 X9 Y9 A1 A2 k1 k2 B0 B1 B2 B3 C0 C1 C2 C3 p0 p1 p2 p3 q0 q1 q2 q3 A ca e w) (hA : l = [] ∨ ∀ a, A = some a → a.block < w0.heap.size) (hf : Fr (· = g) w w') : GX w0 l x y X4 X9 A1 k1 B0 B1 B2 B3 p0 p1 p2 p3 A ca e w' := by
  obtain ⟨cur, hg, _⟩ := h.lent.open
  have ne : ∀ (t : TypeId), t ≠ 5 → ∀ (b : Nat) cu fr, w.heap[b]? = some (Obj.cells cu t fr) → ¬ (b = g) := fun t ht b cu fr hb e => by
    rw [e, hg] at hb
    injection hb with hb
    injection hb with _ hb
    exact ht hb.symm
  have nb : ∀ {b : Nat} {t : TypeId} {cs : List Value}, Blk w b t cs → t ≠ 5 → ¬ (b = g) := fun hb ht => ne _ ht _ _ _ hb
  exact ⟨h.x4.fr hf (nb h.x4 (by decide)), h.x9.fr hf (nb h.x9 (by decide)), h.k1.fr hf (ne _ (by decide)), ⟨h.s1.jobs.fr hf (ne _ (by decide)), h.s1.conds.fr hf (ne _ (by decide)), h.s1.res.fr hf (ne _ (by decide)), h.s1.held.fr hf (ne _ (by decide))⟩,
    (by
      rcases hA with rfl | hA
      · exact Sl.nil _ _ _ _
      · exact h.inn.sl.under hA hf (fun k hk => hk ▸ h.base)), h.fr.step hf (fun i hi => .inr (hi ▸ h.base))⟩
end
set_option maxRecDepth 100000 in
set_option maxHeartbeats 8000000 in
theorem codecGets_walk (A : Option Addr) (ca : Nat) (et : TypeId) (l : Bs) (w : World) (hin : BsI w A ca et l) (hlen : l.length ≤ 140737488355328) :
    Calls Try.prog 7 #[.slice A l.length ca] w fun e w' => e = .returned (.bool true) ∧ Fr No w w' := by
  have HI := Lib.hid hin
  have HM := Lib.hid hlen
  obtain ⟨x, hx⟩ : ∃ x, x = (getEvS l).1 := ⟨_, rfl⟩
  obtain ⟨xe, hxe⟩ : ∃ xe, xe = (getEvS l).2 := ⟨_, rfl⟩
  obtain ⟨s, hs⟩ : ∃ s, s = (getStS l).1 := ⟨_, rfl⟩
  obtain ⟨y, hy⟩ : ∃ y, y = (getStS l).2.1 := ⟨_, rfl⟩
  obtain ⟨ye, hye⟩ : ∃ ye, ye = (getStS l).2.2 := ⟨_, rfl⟩
  have HEC := getEv_cases l
  have HSC := getSt_cases l
  have HKL := Lib.hid (evKeep_len l)
  have HNL := Lib.hid (evName_len l)
  have HSL := Lib.hid (st_len l)
  rw [← hx, ← hxe] at HEC
  rw [← hs, ← hy, ← hye] at HSC
  rw [← hx] at HKL HNL
  rw [← hy, ← hs] at HSL
  have HYL : Hid (StLen y) := Lib.hid (by obtain ⟨⟨h1, h2, h3, h4, _⟩, _⟩ := HSL.out; exact ⟨by omega, by omega, by omega, by omega⟩)
  have HYO : Hid (StOk s y) := Lib.hid (by
    obtain ⟨⟨h1, h2, h3, h4, h5⟩, h6, h7, h8⟩ := HSL.out
    exact ⟨by omega, fun z hz => by have := h6 z hz; omega, fun z hz => by have := h7 z hz; omega, fun z hz => by have := h8 z hz; omega, by simp only [maxLen]; omega, by simp only [maxLen]; omega, by simp only [maxLen]; omega, by simp only [maxLen]; omega⟩)
  have HGE : Hid (∀ A c e w, BsIn w A c e l → Calls Try.prog 29 #[.slice A l.length c] w (EvGot x xe w)) := Lib.hid (fun A c e w h => by
    refine (getEvent_any A c e l w h).mono ?_
    rintro e w' ⟨A', c', rfl, ho, hf⟩
    rw [← hx, ← hxe] at *
    exact ⟨A', c', rfl, Sl.of_own ho, hf⟩)
  have HGR : Hid (∀ A c e w, BsI w A c e l → Calls Try.prog 37 #[.slice A l.length c] w (EvGot x xe w)) := Lib.hid (fun A c e w h => by
    refine (refEv_in A c e l w h (by simp only [maxLen]; omega)).mono ?_
    rw [getEv_same l]
    rintro e w' ⟨A', c', rfl, ho, hf⟩
    rw [← hx, ← hxe] at *
    exact ⟨A', c', rfl, Sl.of_own ho, hf⟩)
  have HGS : Hid (∀ A c e w, BsIn w A c e l → Calls Try.prog 35 #[.slice A l.length c] w (StGot s y ye 119 131 122 125 w)) := Lib.hid (fun A c e w h => by
    refine (getState_any A c e l w h).mono ?_
    rintro e w' ⟨A0, A1, A2, A3, c0, c1, c2, c3, rfl, ho, hf⟩
    rw [← hs, ← hy, ← hye] at *
    exact ⟨A0, A1, A2, A3, c0, c1, c2, c3, rfl, ho.sl, hf⟩)
  have HGT : Hid (∀ A c e w, BsI w A c e l → Calls Try.prog 38 #[.slice A l.length c] w (StGot s y ye T0 T1 T2 T3 w)) := Lib.hid (fun A c e w h => by
    refine (refSt_in A c e l w h (by simp only [maxLen]; omega)).mono ?_
    rintro e w' ⟨A0, A1, A2, A3, c0, c1, c2, c3, rfl, ho, hf⟩
    rw [← hs, ← hy, ← hye] at *
    exact ⟨A0, A1, A2, A3, c0, c1, c2, c3, rfl, ho, hf⟩)
  have HLM := Lib.hid (show l.length ≤ maxLen by simp only [maxLen]; omega)
  clear hin hlen hx hxe hs hy hye
  go_enter Try.func7, Try.ntmps7
  go_upto_region 6 with (first
    | (have _t := HB9; go_at_call 38; go_loud (refine (HGT.out A ca et _ (HI4.out.fr0 ((Fr.refl No w4).alloc (Obj.cells (y.cells B0 B1 B2 B3 p0 p1 p2 p3).toArray 67)))).mono ?_); rintro e w5 ⟨C0, C1, C2, C3, q0, q1, q2, q3, rfl, hs5, hf5⟩; have HS5 := Lib.hid hs5; have HF5 := Lib.hid hf5; clear hs5 hf5)
    | (have _t := HE3; go_at_call 35; go_loud (refine (HGS.out (some ⟨g, 0, none⟩) c _ _ ((HL3.out.fr0 ((Fr.refl No w3).alloc (Obj.cells (x.cells A2 k2).toArray 49))).bsIn HLM.out)).mono ?_); rintro e w4 ⟨B0, B1, B2, B3, p0, p1, p2, p3, rfl, hs4, hf4⟩; have HS4 := Lib.hid hs4; have HF4b := Lib.hid hf4; have HF4 := Lib.hid (((Fr.refl No w3).alloc (Obj.cells (x.cells A2 k2).toArray 49)).trans hf4); have HI4 := Lib.hid (HI3.out.fr0 HF4.out); have HB9 := Lib.hid hs4; clear hs4 hf4)
    | (have _t := HE2; go_at_call 37; go_loud (refine (HGR.out A ca et _ (HI2.out.fr0 ((Fr.refl No w2).alloc (Obj.cells (x.cells A1 k1).toArray 49)))).mono ?_); rintro e w3 ⟨A2, k2, rfl, hs3, hf3⟩; have HE3 := Lib.hid hs3; have HF3b := Lib.hid hf3; have HF3 := Lib.hid (((Fr.refl No w2).alloc (Obj.cells (x.cells A1 k1).toArray 49)).trans hf3); have HI3 := Lib.hid (HI2.out.fr0 HF3.out); have HL3 := Lib.hid (HL2.out.fr0 HF3.out); clear hs3 hf3)
    | (have _t := HL1; go_at_call 29; go_loud (refine (HGE.out (some ⟨g, 0, none⟩) c _ _ (HL1.out.bsIn HLM.out)).mono ?_); rintro e w2 ⟨A1, k1, rfl, hs2, hf2⟩; have HE2 := Lib.hid hs2; have HF2 := Lib.hid hf2; have HI2 := Lib.hid (HI1.out.fr0 hf2); have HL2 := Lib.hid (HL1.out.fr0 hf2); clear hs2 hf2)
    | (go_at_call 36; go_loud (refine (lent_any A ca et l _ HI.out.sl HM.out).mono ?_); rintro e w1 ⟨g, c, rfl, hl1, hb1, hf1⟩; have HL1 := Lib.hid hl1; have HG1 := Lib.hid hb1; have HF1 := Lib.hid hf1; have HI1 := Lib.hid (HI.out.fr0 hf1); clear hl1 hb1 hf1))
  have hw2 : (w2.alloc (Obj.cells (x.cells A1 k1).toArray 49)).heap.size = w2.heap.size + 1 := by simp
  have HZ : ∃ X4 Y4 X9 Y9 : Nat, X4 = w2.heap.size ∧ Y4 = w3.heap.size ∧ X9 = w4.heap.size ∧ Y9 = w5.heap.size := ⟨_, _, _, _, rfl, rfl, rfl, rfl⟩
  obtain ⟨X4, Y4, X9, Y9, hX4, hY4, hX9, hY9⟩ := HZ
  have HF5' := Lib.hid ((((Fr.refl No w4).alloc (Obj.cells (y.cells B0 B1 B2 B3 p0 p1 p2 p3).toArray 67)).trans HF5.out).alloc (Obj.cells (y.cells C0 C1 C2 C3 q0 q1 q2 q3).toArray ST))
  have HG : Hid (GW w g c l x y X4 Y4 X9 Y9 A1 A2 k1 k2 B0 B1 B2 B3 C0 C1 C2 C3 p0 p1 p2 p3 q0 q1 q2 q3 A ca et (w5.alloc (Obj.cells (y.cells C0 C1 C2 C3 q0 q1 q2 q3).toArray ST))) := Lib.hid (by
    have hX := hX4
    have b1 := (((Blk.new w2 49 (x.cells A1 k1)).fr (Fr.trans (Fr.refl No _) (Fr.refl No _)) (fun h => h)))
    rw [← hX4] at b1
    have f3 : Fr No (w2.alloc (Obj.cells (x.cells A1 k1).toArray 49)) w3 := HF3b.out
    have b2 := Blk.new w3 49 (x.cells A2 k2)
    rw [← hY4] at b2
    have f4 : Fr No (w3.alloc (Obj.cells (x.cells A2 k2).toArray 49)) w4 := HF4b.out
    have b3 := Blk.new w4 67 (y.cells B0 B1 B2 B3 p0 p1 p2 p3)
    rw [← hX9] at b3
    have b4 := Blk.new w5 ST (y.cells C0 C1 C2 C3 q0 q1 q2 q3)
    rw [← hY9] at b4
    have f45 := HF5'.out
    have f34 := HF4.out.trans f45
    have f5 := HF5.out.alloc (Obj.cells (y.cells C0 C1 C2 C3 q0 q1 q2 q3).toArray ST)
    exact ⟨HL3.out.fr0 f34, HG1.out, (b1.fr f3 (fun h => h)).fr f34 (fun h => h), (b2.fr f4 (fun h => h)).fr f45 (fun h => h), b3.fr f5 (fun h => h), b4, (HE2.out.fr0 HF3.out).fr0 f34, HE3.out.fr0 f34, HS4.out.fr0 f45, HS5.out.fr0 ((Fr.refl No w5).alloc _), HI4.out.fr0 f45, ((HF1.out.trans HF2.out).trans HF3.out).trans f34⟩)
  rw [← hX4, ← hY4, ← hX9, ← hY9]
  clear hX4 hY4 hX9 hY9 hw2 HF5' HF5 HS5 HI4 HB9 HS4 HF4 HF4b HE3 HF3 HF3b HI3 HL3 HE2 HF2 HI2 HL2 HL1 HG1 HF1 HI1
  generalize w5.alloc (Obj.cells #[.int .i64 y.clock, .int .i64 y.day, .int .i64 y.id, .int .i64 y.run, .slice C0 y.jobs.length q0, .slice C1 y.conds.length q1, .slice C2 y.res.length q2, .slice C3 y.held.length q3] ST) = W at HG ⊢
  obtain ⟨a0, a1, a2, a3, a4⟩ := HG.out.x4.cells5
  have a5 := HG.out.x4.lt
  obtain ⟨b0, b1, b2, b3, b4⟩ := HG.out.y4.cells5
  have b5 := HG.out.y4.lt
  obtain ⟨g0, g1, g2, g3, g4, g5, g6, g7⟩ := HG.out.x9.cells8
  have g8 := HG.out.x9.lt
  obtain ⟨h0, h1, h2, h3, h4, h5, h6, h7⟩ := HG.out.y9.cells8
  have h8 := HG.out.y9.lt
  refine wp_region_o [(0, 1), (1, 1), (2, 2), (3, 0), (4, 0), (5, 0), (6, 0), (7, 0), (8, 0), (9, 0), (10, 0), (11, 0), (12, 0), (13, 0), (14, 0), (15, 1), (17, 1), (16, 2), (18, 2), (19, 0), (20, 0), (21, 0), (22, 0), (23, 0), (24, 0), (25, 0), (26, 0), (27, 0), (28, 0), (29, 2), (30, 0), (31, 0)] (by kernel_rfl) (by kernel_rfl) ?_
  repeat (first
    | (apply wpO_pure rfl rfl; (focus (intro w'; go_simp; (try rfl); done)); try simp only [Act.put, List.setIfInBounds_toArray, List.set_cons_zero, List.set_cons_succ])
    | (apply wpO_read rfl rfl; (focus (intro w' hf' hs'; (try simp only [World.size_drew, World.cell?_drew, World.size_alloc, World.size_setCell] at hs'); go_simp; (try rfl); done)); try simp only [Act.put, List.setIfInBounds_toArray, List.set_cons_zero, List.set_cons_succ])
    | (apply wpO_skip (by decide) rfl rfl; try simp only [Act.put, List.setIfInBounds_toArray, List.set_cons_zero, List.set_cons_succ]))
  refine wpO_loudE rfl fun K hK => ?_
  go_simp
  refine (sameEv_any x A1 A2 k1 k2 _ _ _ (HG.out.k1.drew) (HG.out.k2.drew) (by have := HKL.out; simp only [maxLen]; omega)).mono ?_
  rintro e w6 ⟨rfl, hf6⟩
  refine hK _ _ ⟨hf6, ?_⟩
  clear hK K
  have HG6 := Lib.hid (HG.out.fr0 ((Fr.refl No W).drew.trans hf6))
  clear a0 a1 a2 a3 a4 a5 b0 b1 b2 b3 b4 b5 g0 g1 g2 g3 g4 g5 g6 g7 g8 h0 h1 h2 h3 h4 h5 h6 h7 h8 hf6 HG
  obtain ⟨g0, g1, g2, g3, g4, g5, g6, g7⟩ := HG6.out.x9.cells8
  have g8 := HG6.out.x9.lt
  obtain ⟨h0, h1, h2, h3, h4, h5, h6, h7⟩ := HG6.out.y9.cells8
  have h8 := HG6.out.y9.lt
  repeat (first
    | (apply wpO_pure rfl rfl; (focus (intro w'; go_simp; (try rfl); done)); try simp only [Act.put, List.setIfInBounds_toArray, List.set_cons_zero, List.set_cons_succ])
    | (apply wpO_read rfl rfl; (focus (intro w' hf' hs'; (try simp only [World.size_drew, World.cell?_drew, World.size_alloc, World.size_setCell] at hs'); go_simp; (try rfl); done)); try simp only [Act.put, List.setIfInBounds_toArray, List.set_cons_zero, List.set_cons_succ])
    | (apply wpO_skip (by decide) rfl rfl; try simp only [Act.put, List.setIfInBounds_toArray, List.set_cons_zero, List.set_cons_succ]))
  refine wpO_loudE rfl fun K hK => ?_
  go_simp
  refine (taken_st y B0 B1 B2 B3 p0 p1 p2 p3 _ _ _ _ _ HG6.out.s1 HYL.out).mono ?_
  rintro e w7 ⟨D0, D1, D2, D3, j0, j1, j2, j3, rfl, hs7, hf7⟩
  refine hK _ _ ⟨hf7, ?_⟩
  clear hK K
  have HG7 := Lib.hid (HG6.out.fr0 hf7)
  have HD7 := Lib.hid hs7
  clear g0 g1 g2 g3 g4 g5 g6 g7 g8 h0 h1 h2 h3 h4 h5 h6 h7 h8 hs7 hf7 HG6
  repeat (first
    | (apply wpO_pure rfl rfl; (focus (intro w'; go_simp; (try rfl); done)); try simp only [Act.put, List.setIfInBounds_toArray, List.set_cons_zero, List.set_cons_succ])
    | (apply wpO_read rfl rfl; (focus (intro w' hf' hs'; (try simp only [World.size_drew, World.cell?_drew, World.size_alloc, World.size_setCell] at hs'); go_simp; (try rfl); done)); try simp only [Act.put, List.setIfInBounds_toArray, List.set_cons_zero, List.set_cons_succ])
    | (apply wpO_skip (by decide) rfl rfl; try simp only [Act.put, List.setIfInBounds_toArray, List.set_cons_zero, List.set_cons_succ]))
  refine wpO_loudE rfl fun K hK => ?_
  go_simp
  refine (sameSt_any y D0 D1 D2 D3 C0 C1 C2 C3 j0 j1 j2 j3 q0 q1 q2 q3 _ _ _ _ _ _ _ _ _ HD7.out HG7.out.s2 HYL.out).mono ?_
  rintro e w8 ⟨rfl, hf8⟩
  refine hK _ _ ⟨hf8, ?_⟩
  clear hK K
  have HG8 := Lib.hid (HG7.out.fr0 hf8)
  clear hf8 HG7 HD7
  repeat (first
    | (apply wpO_pure rfl rfl; (focus (intro w'; go_simp; (try rfl); done)); try simp only [Act.put, List.setIfInBounds_toArray, List.set_cons_zero, List.set_cons_succ])
    | (apply wpO_read rfl rfl; (focus (intro w' hf' hs'; (try simp only [World.size_drew, World.cell?_drew, World.size_alloc, World.size_setCell] at hs'); go_simp; (try rfl); done)); try simp only [Act.put, List.setIfInBounds_toArray, List.set_cons_zero, List.set_cons_succ])
    | (apply wpO_skip (by decide) rfl rfl; try simp only [Act.put, List.setIfInBounds_toArray, List.set_cons_zero, List.set_cons_succ]))
  refine wpO_loudE rfl fun K hK => ?_
  go_simp
  refine (kept_any _ g c A ca et l _ HG8.out.lent HG8.out.inn.sl HM.out).mono ?_
  rintro e w9 ⟨rfl, hf9⟩
  refine hK _ _ ⟨hf9, ?_⟩
  clear hK K
  have HG9 := Lib.hid (HG8.out.fr0 hf9)
  clear hf9 HG8
  repeat (first
    | (apply wpO_pure rfl rfl; (focus (intro w'; go_simp; (try rfl); done)); try simp only [Act.put, List.setIfInBounds_toArray, List.set_cons_zero, List.set_cons_succ])
    | (apply wpO_read rfl rfl; (focus (intro w' hf' hs'; (try simp only [World.size_drew, World.cell?_drew, World.size_alloc, World.size_setCell] at hs'); go_simp; (try rfl); done)); try simp only [Act.put, List.setIfInBounds_toArray, List.set_cons_zero, List.set_cons_succ])
    | (apply wpO_skip (by decide) rfl rfl; try simp only [Act.put, List.setIfInBounds_toArray, List.set_cons_zero, List.set_cons_succ]))
  refine wpO_nil ?_
  have HPX : Hid (evAll x = l ∧ evBad x = false → ∀ A c et w, Sl w et 1 A x.keep.length (x.keep.flatMap encI) → Calls Try.prog 25 #[x.agg A c] w (PutEv l 0 w)) := Lib.hid (fun hh A c et w h => by
    have := putEv_p x A c et w h (by have := HKL.out; simp only [maxLen]; omega) (by have := HNL.out; omega)
    rw [(putEv_of hh.1 hh.2).1, (putEv_of hh.1 hh.2).2] at this
    exact this)
  have HPY : Hid (stAll s y = l ∧ largeB s y = false ∧ l.length ≤ 60000 → ∀ A0 A1 A2 A3 c0 c1 c2 c3 e0 e1 e2 e3 w, StSl w y A0 A1 A2 A3 e0 e1 e2 e3 → Calls Try.prog 31 #[.string s, y.agg A0 A1 A2 A3 c0 c1 c2 c3] w (PutEv l 0 w)) := Lib.hid (by
    intro hh A0 A1 A2 A3 c0 c1 c2 c3 e0 e1 e2 e3 w h
    have := putSt_p s y A0 A1 A2 A3 c0 c1 c2 c3 _ _ _ _ w h HYO.out
    rw [(putSt_of hh.1 hh.2.1 hh.2.2).1, (putSt_of hh.1 hh.2.1 hh.2.2).2] at this
    exact this)
  have HBL := Lib.hid HI.out.below
  rcases HEC with ⟨hz1, _⟩ | ⟨rfl, hz1⟩ <;> rcases HSC with ⟨hz2, _⟩ | ⟨rfl, hz2⟩
  · have hn1 : (xe == 0) = false := by simpa using hz1
    have hn2 : (ye == 0) = false := by simpa using hz2
    clear hz1 hz2
    go_wp2_with (first
      | (have _t := HX10; go_at_call 28; go_loud (refine (codKnown_any _).mono ?_); rintro e w13 ⟨rfl, hf13⟩; have HF13 := Lib.hid (HX10.out.fr.trans hf13); clear hf13)
      | (go_at_call 40; go_loud (refine (spoil_any g c l.length _ HG9.out.lent.open HLM.out).mono ?_); rintro e w10 ⟨⟨v10, rfl⟩, hf10⟩; have HX10 := Lib.hid (HG9.out.spoil HBL.out hf10); clear hf10; obtain ⟨a0, a1, a2, a3, a4⟩ := HX10.out.x4.cells5; have a5 := HX10.out.x4.lt; obtain ⟨g0, g1, g2, g3, g4, g5, g6, g7⟩ := HX10.out.x9.cells8; have g8 := HX10.out.x9.lt; have q1_ := run_str (c := ca) HX10.out.sl))
    go_ret
    exact ⟨rfl, HF13.out⟩
  · have hn1 : (xe == 0) = false := by simpa using hz1
    have HPYL := Lib.hid (HPY.out ⟨hz2.1, hz2.2.1, hz2.2.2⟩)
    clear hz1 hz2
    go_wp2_with (first
      | (have _t := HX12; go_at_call 28; go_loud (refine (codKnown_any _).mono ?_); rintro e w13 ⟨rfl, hf13⟩; have HF13 := Lib.hid (HX12.out.fr.trans hf13); clear hf13)
      | (have _t := HX10; go_at_call 31; go_loud (refine (HPYL.out B0 B1 B2 B3 p0 p1 p2 p3 _ _ _ _ _ HX10.out.s1).mono ?_); rintro e w12 ⟨A12, c12, rfl, hi12, hf12⟩; have HX12 := Lib.hid (HX10.out.fr0 hf12); (try clear q2_); have q2_ := run_str (c := c12) hi12.sl; clear hi12 hf12 a0 a1 a2 a3 a4 a5 g0 g1 g2 g3 g4 g5 g6 g7 g8 q1_; obtain ⟨a0, a1, a2, a3, a4⟩ := HX12.out.x4.cells5; have a5 := HX12.out.x4.lt; obtain ⟨g0, g1, g2, g3, g4, g5, g6, g7⟩ := HX12.out.x9.cells8; have g8 := HX12.out.x9.lt; have q1_ := run_str (c := ca) HX12.out.sl)
      | (go_at_call 40; go_loud (refine (spoil_any g c l.length _ HG9.out.lent.open HLM.out).mono ?_); rintro e w10 ⟨⟨v10, rfl⟩, hf10⟩; have HX10 := Lib.hid (HG9.out.spoil HBL.out hf10); clear hf10; obtain ⟨a0, a1, a2, a3, a4⟩ := HX10.out.x4.cells5; have a5 := HX10.out.x4.lt; obtain ⟨g0, g1, g2, g3, g4, g5, g6, g7⟩ := HX10.out.x9.cells8; have g8 := HX10.out.x9.lt; have q1_ := run_str (c := ca) HX10.out.sl))
    go_ret
    exact ⟨rfl, HF13.out⟩
  · have HPXL := Lib.hid (HPX.out hz1)
    have hn2 : (ye == 0) = false := by simpa using hz2
    clear hz1 hz2
    go_wp2_with (first
      | (have _t := HX11; go_at_call 28; go_loud (refine (codKnown_any _).mono ?_); rintro e w13 ⟨rfl, hf13⟩; have HF13 := Lib.hid (HX11.out.fr.trans hf13); clear hf13)
      | (have _t := HX10; go_at_call 25; go_loud (refine (HPXL.out A1 k1 _ _ HX10.out.k1).mono ?_); rintro e w11 ⟨A11, c11, rfl, hi11, hf11⟩; have HX11 := Lib.hid (HX10.out.fr0 hf11); have q2_ := run_str (c := c11) hi11.sl; clear hi11 hf11 a0 a1 a2 a3 a4 a5 g0 g1 g2 g3 g4 g5 g6 g7 g8 q1_; obtain ⟨a0, a1, a2, a3, a4⟩ := HX11.out.x4.cells5; have a5 := HX11.out.x4.lt; obtain ⟨g0, g1, g2, g3, g4, g5, g6, g7⟩ := HX11.out.x9.cells8; have g8 := HX11.out.x9.lt; have q1_ := run_str (c := ca) HX11.out.sl)
      | (go_at_call 40; go_loud (refine (spoil_any g c l.length _ HG9.out.lent.open HLM.out).mono ?_); rintro e w10 ⟨⟨v10, rfl⟩, hf10⟩; have HX10 := Lib.hid (HG9.out.spoil HBL.out hf10); clear hf10; obtain ⟨a0, a1, a2, a3, a4⟩ := HX10.out.x4.cells5; have a5 := HX10.out.x4.lt; obtain ⟨g0, g1, g2, g3, g4, g5, g6, g7⟩ := HX10.out.x9.cells8; have g8 := HX10.out.x9.lt; have q1_ := run_str (c := ca) HX10.out.sl))
    go_ret
    exact ⟨rfl, HF13.out⟩
  · have HPXL := Lib.hid (HPX.out hz1)
    have HPYL := Lib.hid (HPY.out ⟨hz2.1, hz2.2.1, hz2.2.2⟩)
    clear hz1 hz2
    go_wp2_with (first
      | (have _t := HX12; go_at_call 28; go_loud (refine (codKnown_any _).mono ?_); rintro e w13 ⟨rfl, hf13⟩; have HF13 := Lib.hid (HX12.out.fr.trans hf13); clear hf13)
      | (have _t := HX11; go_at_call 31; go_loud (refine (HPYL.out B0 B1 B2 B3 p0 p1 p2 p3 _ _ _ _ _ HX11.out.s1).mono ?_); rintro e w12 ⟨A12, c12, rfl, hi12, hf12⟩; have HX12 := Lib.hid (HX11.out.fr0 hf12); (try clear q2_); have q2_ := run_str (c := c12) hi12.sl; clear hi12 hf12 a0 a1 a2 a3 a4 a5 g0 g1 g2 g3 g4 g5 g6 g7 g8 q1_; obtain ⟨a0, a1, a2, a3, a4⟩ := HX12.out.x4.cells5; have a5 := HX12.out.x4.lt; obtain ⟨g0, g1, g2, g3, g4, g5, g6, g7⟩ := HX12.out.x9.cells8; have g8 := HX12.out.x9.lt; have q1_ := run_str (c := ca) HX12.out.sl)
      | (have _t := HX10; go_at_call 25; go_loud (refine (HPXL.out A1 k1 _ _ HX10.out.k1).mono ?_); rintro e w11 ⟨A11, c11, rfl, hi11, hf11⟩; have HX11 := Lib.hid (HX10.out.fr0 hf11); have q2_ := run_str (c := c11) hi11.sl; clear hi11 hf11 a0 a1 a2 a3 a4 a5 g0 g1 g2 g3 g4 g5 g6 g7 g8 q1_; obtain ⟨a0, a1, a2, a3, a4⟩ := HX11.out.x4.cells5; have a5 := HX11.out.x4.lt; obtain ⟨g0, g1, g2, g3, g4, g5, g6, g7⟩ := HX11.out.x9.cells8; have g8 := HX11.out.x9.lt; have q1_ := run_str (c := ca) HX11.out.sl)
      | (go_at_call 40; go_loud (refine (spoil_any g c l.length _ HG9.out.lent.open HLM.out).mono ?_); rintro e w10 ⟨⟨v10, rfl⟩, hf10⟩; have HX10 := Lib.hid (HG9.out.spoil HBL.out hf10); clear hf10; obtain ⟨a0, a1, a2, a3, a4⟩ := HX10.out.x4.cells5; have a5 := HX10.out.x4.lt; obtain ⟨g0, g1, g2, g3, g4, g5, g6, g7⟩ := HX10.out.x9.cells8; have g8 := HX10.out.x9.lt; have q1_ := run_str (c := ca) HX10.out.sl))
    go_ret
    exact ⟨rfl, HF13.out⟩
end Go.Proofs.Ytegogggemmcgdaa

/- messages that come in. -/
namespace Go.Proofs.Ytegogggemmcgdaa
open Go Go.RowKit Go.Proofs Go.ChangeShapes Go.WideShapes Go.Deep

theorem refMsg_und : Try.prog.underlying 30 = some (.struct (Try.prog.fieldsOf 30)) := by kernel_rfl
theorem refMsg_fields : (Try.prog.fieldsOf 30).toList.map (fun f => (f.type, f.offset)) = [(3, 0), (3, 1), (3, 2), (2, 3), (2, 4), (2, 5), (2, 6), (9, 7)] := by kernel_rfl
theorem i3_und : Try.prog.underlying 3 = some (.int .i64) := by kernel_rfl
theorem i2_und : Try.prog.underlying 2 = some (.int .i64) := by kernel_rfl
theorem str_und : Try.prog.underlying 9 = some .string := by kernel_rfl
section
variable {H : Type} {enc : TypeId × Value → H} {w : World} {base : Nat} {spare : Nat → Bool} {held : Bool}
set_option maxRecDepth 100000 in
theorem rd_msg {cs : List Value} (h : Rd enc Try.prog w base spare held 30 cs) : ∃ x : Msg, cs = x.vals := by
  have hfs := refMsg_fields
  obtain ⟨hlen, hf⟩ := h.struct refMsg_und
  generalize Try.prog.fieldsOf 30 = fs at hfs hf
  have hc : Try.prog.cellsOf 30 = 8 := by kernel_rfl
  have c3 : Try.prog.cellsOf 3 = 1 := by kernel_rfl
  have c2 : Try.prog.cellsOf 2 = 1 := by kernel_rfl
  have c9 : Try.prog.cellsOf 9 = 1 := by kernel_rfl
  rw [hc] at hlen
  match cs, hlen with
  | [a0, a1, a2, a3, a4, a5, a6, a7], _ =>
    have key : ∀ (i : Nat) (ty o : Nat), (fs.toList.map (fun f => (f.type, f.offset)))[i]? = some (ty, o) → Rd enc Try.prog w base spare held ty (([a0, a1, a2, a3, a4, a5, a6, a7].drop o).take (Try.prog.cellsOf ty)) := by
      intro i ty o hi
      rw [List.getElem?_map] at hi
      cases hfi : fs.toList[i]? with
      | none => rw [hfi] at hi; cases hi
      | some f =>
        rw [hfi] at hi
        simp only [Option.map_some, Option.some.injEq, Prod.mk.injEq] at hi
        obtain ⟨rfl, rfl⟩ := hi
        exact hf i f (by simpa using hfi)
    rw [hfs] at key
    have k0 := key 0 3 0 rfl
    have k1 := key 1 3 1 rfl
    have k2 := key 2 3 2 rfl
    have k3 := key 3 2 3 rfl
    have k4 := key 4 2 4 rfl
    have k5 := key 5 2 5 rfl
    have k6 := key 6 2 6 rfl
    have k7 := key 7 9 7 rfl
    simp only [c2, c3, c9, List.drop_succ_cons, List.drop_zero, List.take_succ_cons, List.take_zero] at k0 k1 k2 k3 k4 k5 k6 k7
    obtain ⟨n0, e0, _⟩ := k0.int i3_und
    obtain ⟨n1, e1, _⟩ := k1.int i3_und
    obtain ⟨n2, e2, _⟩ := k2.int i3_und
    obtain ⟨n3, e3, _⟩ := k3.int i2_und
    obtain ⟨n4, e4, _⟩ := k4.int i2_und
    obtain ⟨n5, e5, _⟩ := k5.int i2_und
    obtain ⟨n6, e6, _⟩ := k6.int i2_und
    obtain ⟨s, e7, _⟩ := k7.string str_und
    simp only [List.cons.injEq, and_true] at e0 e1 e2 e3 e4 e5 e6 e7
    subst e0 e1 e2 e3 e4 e5 e6 e7
    exact ⟨⟨n0, n1, n2, n3, n4, n5, n6, s⟩, rfl⟩
end
end Go.Proofs.Ytegogggemmcgdaa
namespace Go.Proofs.Ytegogggemmcgdaa
open Go Go.RowKit Go.Proofs Go.ChangeShapes Go.WideShapes Go.Deep
theorem flat_one {α : Type} (f : α → Value) (l : List α) : l.flatMap (fun y => [f y]) = l.map f := by
  induction l with
  | nil => rfl
  | cons a l ih => simp only [List.flatMap_cons, List.map_cons, ih, List.cons_append, List.nil_append]
theorem wf_i64 {n : Int} (h : (Lit.int .i64 n).wf = true) : -9223372036854775808 ≤ n ∧ n ≤ 9223372036854775807 := by
  simp only [Lit.wf, IntKind.min, IntKind.max, IntKind.signed, IntKind.bits] at h
  simp at h
  omega
section
variable {H : Type} {enc : TypeId × Value → H} {w : World} {base : Nat} {spare : Nat → Bool} {held : Bool}
theorem rd_msgs {v : Value} {d : DataW H} {p : List MemPlace} (h : DataW.Trod enc Try.prog w base spare held 22 v d p) (hv : ∃ a l c, v = .slice a l c) :
    ∃ (A : Option Addr) (c : Nat) (xs : List Msg) (e : TypeId), v = .slice A xs.length c ∧ xs.length ≤ maxLen ∧ Sl w e 8 A xs.length (xs.flatMap Msg.vals) := by
  obtain ⟨a, l, c, rfl⟩ := hv
  obtain ⟨fuel, hf⟩ := h
  obtain ⟨A, n, c', xs, e', h1, _, h3, h4, rfl, h6, _⟩ := Rd.slice (p := fun _ => True) Msg.vals 8 (by omega) ⟨fuel, _, hf⟩ Try.underlying22 (by kernel_rfl) (fun _ => rfl) (fun cs' hr => by obtain ⟨x, hx⟩ := rd_msg hr; exact ⟨x, hx, trivial⟩)
  simp only [Value.cells, List.cons.injEq, and_true] at h1
  exact ⟨A, c', xs, e', h1, by omega, h6⟩
theorem rd_ints {v : Value} {d : DataW H} {p : List MemPlace} (h : DataW.Trod enc Try.prog w base spare held 23 v d p) (hv : ∃ a l c, v = .slice a l c) :
    ∃ (A : Option Addr) (c : Nat) (xs : List Int) (e : TypeId), v = .slice A xs.length c ∧ xs.length ≤ maxLen ∧ Sl w e 1 A xs.length (xs.map (Value.int .i64)) ∧ ∀ y ∈ xs, -9223372036854775808 ≤ y ∧ y ≤ 9223372036854775807 := by
  obtain ⟨a, l, c, rfl⟩ := hv
  obtain ⟨fuel, hf⟩ := h
  obtain ⟨A, n, c', xs, e', h1, _, h3, h4, rfl, h6, h7⟩ := Rd.slice (p := fun y => -9223372036854775808 ≤ y ∧ y ≤ 9223372036854775807) (fun y : Int => [Value.int .i64 y]) 1 (by omega) ⟨fuel, _, hf⟩ Try.underlying23 (by kernel_rfl) (fun _ => rfl)
    (fun cs' hr => by obtain ⟨x, hx, hw⟩ := hr.int i3_und; exact ⟨x, hx, wf_i64 hw⟩)
  simp only [Value.cells, List.cons.injEq, and_true] at h1
  rw [flat_one] at h6
  exact ⟨A, c', xs, e', h1, by omega, h6, h7⟩
end
end Go.Proofs.Ytegogggemmcgdaa

/- bytes that come in. -/
namespace Go.Proofs.Ytegogggemmcgdaa
open Go Go.RowKit Go.Proofs Go.ChangeShapes Go.WideShapes Go.Deep

theorem wf_u8 {n : Int} (h : (Lit.int .u8 n).wf = true) : 0 ≤ n ∧ n ≤ 255 := by
  simp only [Lit.wf, IntKind.min, IntKind.max, IntKind.signed, IntKind.bits] at h
  simp at h
  omega
theorem u8_of {n : Int} (h : (Lit.int .u8 n).wf = true) : ∃ b : UInt8, n = (b.toNat : Int) := by
  obtain ⟨h0, h1⟩ := wf_u8 h
  refine ⟨UInt8.ofNat n.toNat, ?_⟩
  have : (UInt8.ofNat n.toNat).toNat = n.toNat % 256 := UInt8.toNat_ofNat'
  omega
section
variable {H : Type} {enc : TypeId × Value → H} {w : World} {base : Nat} {spare : Nat → Bool} {held : Bool}
theorem rd_code {cs : List Value} (h : Rd enc Try.prog w base spare held 30 cs) {x : Msg} (hx : cs = x.vals) : -9223372036854775808 ≤ x.code ∧ x.code ≤ 9223372036854775807 := by
  have hfs := refMsg_fields
  obtain ⟨hlen, hf⟩ := h.struct refMsg_und
  generalize Try.prog.fieldsOf 30 = fs at hfs hf
  have c2 : Try.prog.cellsOf 2 = 1 := by kernel_rfl
  have h6 : (fs.toList.map (fun f => (f.type, f.offset)))[6]? = some (2, 6) := by rw [hfs]; rfl
  rw [List.getElem?_map] at h6
  cases hfi : fs.toList[6]? with
  | none => rw [hfi] at h6; cases h6
  | some f =>
    rw [hfi] at h6
    simp only [Option.map_some, Option.some.injEq, Prod.mk.injEq] at h6
    obtain ⟨e1, e2⟩ := h6
    have k6 := hf 6 f (by simpa using hfi)
    rw [e1, e2, c2, hx] at k6
    simp only [List.drop_succ_cons, List.drop_zero, List.take_succ_cons, List.take_zero] at k6
    obtain ⟨n, en, hw⟩ := k6.int i2_und
    simp only [List.cons.injEq, and_true, Value.int.injEq, true_and] at en
    subst en
    exact wf_i64 hw
theorem rd_u8 {cs : List Value} (h : Rd enc Try.prog w base spare held 5 cs) : ∃ b : UInt8, cs = [.int .u8 (b.toNat : Int)] := by
  obtain ⟨n, rfl, hw⟩ := h.int byte_und
  obtain ⟨h0, h1⟩ := wf_u8 hw
  refine ⟨UInt8.ofNat n.toNat, ?_⟩
  have : (UInt8.ofNat n.toNat).toNat = n.toNat % 256 := UInt8.toNat_ofNat'
  rw [this]
  congr 2
  omega
theorem rd_bytes {v : Value} {d : DataW H} {p : List MemPlace} (h : DataW.Trod enc Try.prog w base spare held 50 v d p) (hv : ∃ a l c, v = .slice a l c) :
    ∃ (A : Option Addr) (c : Nat) (l : Bs) (e : TypeId), v = .slice A l.length c ∧ l.length ≤ c ∧ l.length ≤ maxLen ∧ Sl w e 1 A l.length (enc8 l) ∧ (l.length = 0 ∨ ∃ elems spare, d = .slice elems spare ∧ elems.length = l.length) := by
  obtain ⟨a, l, c, rfl⟩ := hv
  obtain ⟨fuel, hf⟩ := h
  obtain ⟨A, n, c', xs, e', h1, _, h3, h4, rfl, h6, _⟩ := Rd.slice (p := fun _ => True) (fun b : UInt8 => [Value.int .u8 (b.toNat : Int)]) 1 (by omega) ⟨fuel, _, hf⟩ Try.underlying50 (by kernel_rfl) (fun _ => rfl)
    (fun cs' hr => by obtain ⟨x, hx⟩ := rd_u8 hr; exact ⟨x, hx, trivial⟩)
  simp only [Value.cells, List.cons.injEq, and_true] at h1
  rw [flat_one] at h6
  refine ⟨A, c', xs, e', h1, h3, by omega, h6, ?_⟩
  rcases open_slice Try.underlying50 hf with ⟨h0, _⟩ | ⟨a', len, cap, m, n', D, Pl, h0, _, _, _, _, hx, _⟩
  · left
    simp only [Value.cells, List.cons.injEq, and_true] at h0
    rw [h0] at h1
    injection h1 with _ h2 _
    exact h2.symm
  · right
    simp only [Value.cells, List.cons.injEq, and_true] at h0
    rw [h0] at h1
    injection h1 with _ h2 _
    injection hx with hx _
    exact ⟨_, _, hx, by simp [h2]⟩
end
end Go.Proofs.Ytegogggemmcgdaa
