import Derived.Test.YtegogggemmcgdaaCG2
set_option linter.unusedVariables false
set_option linter.unusedSimpArgs false
/- codec: lists of jobs and conditions that are read. -/
namespace Go.Proofs.Ytegogggemmcgdaa
open Go Go.RowKit Go.Proofs

abbrev JSt.zero : JSt := ⟨0, 0, 0, 0, false, false, 0, 0, 0, 0⟩
abbrev CondS.zero : CondS := ⟨⟨#[]⟩, 0⟩
set_option maxRecDepth 100000 in
set_option maxHeartbeats 4000000 in
theorem listR_job (rs : RS → RS × JSt) (p base b o : Nat) (s : RS) (t : TypeId) (cs : List Value) (most : Nat) (w : World) (h : PipeR w p base s) (hp : base ≤ p) (hb : base ≤ b) (hB : Blk w b t cs) (hc : cs[o]? = some (.slice none 0 0)) (hbp : b ≠ p) (htb : t ≠ 119)
    (hmost : most ≤ 4096) (hpart : PartR 100 119 JSt.vals JSt.zero rs p base) :
    Calls Try.prog 99 #[.pointer (some ⟨p, 0, none⟩), .pointer (some ⟨b, o, none⟩), .int .i64 most, .func (.func 100) #[] #[]] w fun e w' => (∃ u, e = .returned u) ∧ PipeR w' p base (listS rs s most).1 ∧ (∃ v, Blk w' b t (cs.set o v) ∧ w'.ownsRow w.heap.size 119 10 v (listS rs s most).2.length ((listS rs s most).2.flatMap JSt.vals)) ∧ Fr2 p b w w' := by
  have n0 := (hB.cell o).trans hc
  have n1 := hB.lt
  have hol := (List.getElem?_eq_some_iff.1 hc).1
  have HPB := Lib.hid (show base ≤ w.heap.size by have := (PipeR.cells h).2.2.1; omega)
  have hwp : w.heap.size ≠ p := by have := (PipeR.cells h).2.2.1; omega
  have hwb : b ≠ w.heap.size := by have := hB.lt; omega
  have HN0 := Lib.hid (manyR_any p base w.heap.size 0 s 3 [.int .i64 0] 0 most _ (h.fr0 ((Fr.refl No w).alloc (Obj.cells #[.int .i64 0] 3))) hp HPB.out (Blk.new w 3 [.int .i64 0]) rfl hwp)
  have HFA := Lib.hid ((Fr.refl No w).alloc (Obj.cells #[.int .i64 0] 3))
  have HPT := Lib.hid hpart
  have HM := Lib.hid hmost
  have HB := Lib.hid hB
  have HC := Lib.hid hc
  have HOL := Lib.hid hol
  have hpos : (manyS s 0 most).1.1 = false → 0 ≤ (manyS s 0 most).2 ∧ (manyS s 0 most).2 ≤ most := fun hz => by
    unfold manyS at hz ⊢
    simp only [Bool.or_eq_false_iff, decide_eq_false_iff_not] at hz
    omega
  unfold listS
  obtain ⟨⟨⟨bd, rest⟩, n2⟩, hs1⟩ : ∃ x, x = manyS s 0 most := ⟨_, rfl⟩
  rw [← hs1] at HN0 hpos ⊢
  simp only at HN0 hpos ⊢
  obtain ⟨nb, hnb⟩ : ∃ nb, nb = w.heap.size := ⟨_, rfl⟩
  rw [← hnb] at HN0 hwp hwb
  have HNB := Lib.hid hnb
  clear hnb hs1 h hB hc hpart hmost hol
  obtain ⟨N, hNN⟩ : ∃ N, N = n2.toNat := ⟨_, rfl⟩
  rw [← hNN]
  have HNN := Lib.hid hNN
  clear hNN
  obtain ⟨F, hF⟩ : ∃ F, F = foldR rs N (bd, rest) [] := ⟨_, rfl⟩
  rw [← hF]
  have HF := Lib.hid hF
  clear hF
  go_enter Try.func99, Try.ntmps99
  go_wp2_with (rw [← HNB.out]; go_at_call 111; refine HN0.out.mono ?_; rintro e w1 ⟨⟨u1, rfl⟩, hp1, hb1, hf1⟩; have HP1 := Lib.hid hp1; have HN1 := Lib.hid hb1; have F1 : Fr2 p nb w w1 := (HFA.out.any _).trans hf1; have HF01 := Lib.hid F1; have B1 := HB.out.fr F1 (fun hk => by rcases hk with e | e; exact hbp e; exact hwb e); have HB1 := Lib.hid B1; clear hp1 hb1 hf1 F1 B1 n0 n1)
  have HPOS := Lib.hid hpos
  have HF1 := Lib.hid (HF01.out.new b (Nat.le_of_eq HNB.out.symm))
  have hbn := hwb
  clear hpos hwb
  go_loopg [9] N (fun g v9 wr => LRRel rs JSt.vals w p base nb b o t 119 10 cs N n2 F g v9 wr)
  case atStart => exact ⟨0, .slice none 0 0, (bd, rest), [], by omega, rfl, HP1.out, by rw [set_self HC.out]; exact HB1.out, HN1.out, World.ownsRow_nil w1 _ _ _, rfl, HF.out.symm, fun hz => by have := HPOS.out hz; have := HM.out; have := HNN.out; omega, HF1.out⟩
  case round =>
    clear HP1 HN1 HF01 HB1 HF1
    obtain ⟨i, v, ⟨bi, li⟩, xs, hgi, rfl, hpr, hbl, hnl, hown, hxl, hfo, hst, hf⟩ := hrel
    have HP := Lib.hid hpr
    have HBL := Lib.hid hbl
    have HNL := Lib.hid hnl
    have HO := Lib.hid hown
    have HXL := Lib.hid hxl
    have HFO := Lib.hid hfo
    have HFR := Lib.hid hf
    have HST := Lib.hid hst
    have hi0 : (0 : Int) ≤ (i : Int) := by omega
    obtain ⟨c1, c2, c4, c3⟩ := hpr.cells
    simp only at c2
    have e0 := hnl.cell 0
    have e1 := hnl.lt
    simp only [List.getElem?_cons_zero] at e0
    clear hpr hbl hnl hown hxl hfo hst hf
    cases bi
    · obtain ⟨hn2, hN⟩ := HST.out rfl
      subst hn2
      by_cases hlt : i < N
      · have hlt1 : (i : Int) < (N : Int) := by omega
        obtain ⟨A, cA, rfl, _⟩ := own_shape HO.out
        have HPTw := Lib.hid (HPT.out (wr.alloc (Obj.cells (JSt.vals JSt.zero).toArray 119)) li wr.heap.size (HP.out.fr0 ((Fr.refl No wr).alloc _)) (Nat.le_trans HPB.out HFR.out.size) (Blk.new wr 119 (JSt.vals JSt.zero)))
        have hFx := HFO.out
        rw [show N - i = (N - i - 1) + 1 by omega, foldR_succ] at hFx
        have HFX := Lib.hid hFx
        clear hFx
        go_wp2_with (first
          | (go_at_call 100; refine HPTw.out.mono ?_; rintro e w2 ⟨⟨u2, rfl⟩, hp2, hx2, hf2⟩; have HP2 := Lib.hid hp2; have HX2 := Lib.hid hx2; have HF2 := Lib.hid hf2; obtain ⟨d1, d2, d4, d3⟩ := hp2.cells; clear hp2 hx2 hf2))
        obtain ⟨iT, zT, hiT, hzT, hzs, hsT, hbT⟩ := infoB_parts (e := 119) (sz := 10) (by kernel_rfl)
        obtain ⟨y, hy⟩ : ∃ y, y = (rs (false, li)).2 := ⟨_, rfl⟩
        rw [← hy] at HX2 HFX
        obtain ⟨s2, hs2⟩ : ∃ s2, s2 = (rs (false, li)).1 := ⟨_, rfl⟩
        rw [← hs2] at HP2 HFX
        clear hy hs2
        have hx2 := HX2.out
        have x0 := hx2.cell 0; have x1 := hx2.cell 1; have x2 := hx2.cell 2; have x3 := hx2.cell 3; have x4 := hx2.cell 4; have x5 := hx2.cell 5; have x6 := hx2.cell 6; have x7 := hx2.cell 7; have x8 := hx2.cell 8; have x9 := hx2.cell 9
        have xl := hx2.lt
        have hbx : b ≠ wr.heap.size := by have := HBL.out.lt; omega
        have B2 := (HBL.out.alloc (Obj.cells (JSt.vals JSt.zero).toArray 119)).fr HF2.out (fun hk => by rcases hk with e | e; exact hbp e; exact hbx e)
        have N2 := (HNL.out.alloc (Obj.cells (JSt.vals JSt.zero).toArray 119)).fr HF2.out (fun hk => by rcases hk with e | e; exact hwp e; have := HNL.out.lt; omega)
        obtain ⟨pc, hpc⟩ := HP.out.blk
        have O2 := own_fr (own_fr0 HO.out ((Fr.refl No wr).alloc (Obj.cells (JSt.vals JSt.zero).toArray 119))) HF2.out (fun k hk hS => by
          rcases hS with e | e
          · exact own_far HO.out hpc (by decide) k hk e
          · have := (own_size HO.out k hk).2; omega)
        have m0 := B2.cell o
        rw [List.getElem?_set_self HOL.out] at m0
        have m1 := B2.lt
        have F2 : Fr2 p b w w2 := Fr2.pb HF2.out b w (Fr.alloc HFR.out _) HFR.out.size
        have HF2' := Lib.hid F2
        have HB2 := Lib.hid B2
        have HN2 := Lib.hid N2
        have HO2 := Lib.hid O2
        have HYL := Lib.hid (show (xs ++ [y]).length = xs.length + 1 by simp)
        have HYF := Lib.hid (show xs.flatMap JSt.vals ++ JSt.vals y = (xs ++ [y]).flatMap JSt.vals by simp)
        clear hx2 B2 N2 O2 F2 hpc e0 e1 c1 c2 c3 c4
        refine wp_region_o [(0, 0), (1, 0), (2, 0), (3, 1), (4, 1), (5, 2), (6, 3), (7, 0), (8, 3)] (by kernel_rfl) (by kernel_rfl) ?_
        repeat (first
          | (apply wpO_pure rfl rfl; (focus (intro w'; go_simp; (try rfl); done)); try simp only [Act.put, List.setIfInBounds_toArray, List.set_cons_zero, List.set_cons_succ])
          | (apply wpO_read rfl rfl; (focus (intro w' hf' hs'; (try simp only [World.size_drew, World.cell?_drew, World.size_alloc, World.size_setCell] at hs'); go_simp; (try rfl); done)); try simp only [Act.put, List.setIfInBounds_toArray, List.set_cons_zero, List.set_cons_succ])
          | (apply wpO_skip (by decide) rfl rfl; try simp only [Act.put, List.setIfInBounds_toArray, List.set_cons_zero, List.set_cons_succ]))
        refine wpO_loudE rfl fun K hK => ?_
        go_simp
        refine hK _ _ ⟨by (repeat (first | exact Fr.refl _ _ | assumption | refine Fr.drew ?_ | refine Fr.alloc ?_ _ | refine Fr.drewL ?_)), ?_⟩
        clear hK K
        repeat (first
          | (apply wpO_pure rfl rfl; (focus (intro w'; go_simp; (try rfl); done)); try simp only [Act.put, List.setIfInBounds_toArray, List.set_cons_zero, List.set_cons_succ])
          | (apply wpO_read rfl rfl; (focus (intro w' hf' hs'; (try simp only [World.size_drew, World.cell?_drew, World.size_alloc, World.size_setCell] at hs'); go_simp; (try rfl); done)); try simp only [Act.put, List.setIfInBounds_toArray, List.set_cons_zero, List.set_cons_succ])
          | (apply wpO_skip (by decide) rfl rfl; try simp only [Act.put, List.setIfInBounds_toArray, List.set_cons_zero, List.set_cons_succ]))
        have O3 := own_fr0 HO2.out (((Fr.refl No w2).alloc (Obj.cells (JSt.vals y).toArray 119)).drew)
        refine wpO_loud rfl fun K hK => ?_
        refine step_append_owned (by rfl) (.tmp 51) (.tmp 53) 63 (by rfl) (w.heap.size + 1) 119 iT zT 10 iT.bytes Try.underlying63 hiT hzT hsT rfl hzs (by omega) (.slice A xs.length cA) xs.length (xs.flatMap JSt.vals) (by rfl) O3 (some ⟨w2.heap.size, 0, none⟩) 1 1 119 (JSt.vals y) (by rfl) (Sl.of_new w2 119 10 1 (JSt.vals y).toArray (JSt.vals y) rfl rfl).drew (List.all_eq_true.1 (by rfl)) (by have := HXL.out; simp only [maxLen]; omega) (by
          have := HXL.out
          have h1 : (xs.length + 1) * iT.bytes ≤ 4097 * 100 := Nat.mul_le_mul (by omega) hbT
          omega) (by have := HF2'.out.size; have := HPB.out; have := HNL.out.lt; have := HF2.out.size; have := HNB.out; simp only [World.size_drew, World.size_alloc] at *; omega) ?_
        intro v2 w3 ho3 hg3 hat3
        refine hK _ _ ?_
        clear hK K
        try simp only [Act.put, List.setIfInBounds_toArray, List.set_cons_zero, List.set_cons_succ]
        have B3 := Blk.grown (HB2.out.alloc (Obj.cells (JSt.vals y).toArray 119)).drew hg3 (fun k hk => own_far O3 (HB2.out.alloc (Obj.cells (JSt.vals y).toArray 119)).drew htb k hk)
        have N3 := Blk.grown (HN2.out.alloc (Obj.cells (JSt.vals y).toArray 119)).drew hg3 (fun k hk => by have := (own_size O3 k hk).1; have := HNB.out; omega)
        have P2 := HP2.out.fr0 ((Fr.refl No w2).alloc (Obj.cells (JSt.vals y).toArray 119)).drew
        obtain ⟨pc, hpc⟩ := P2.blk
        have P3 : PipeR w3 p base s2 := P2.fr (Fr.of_grown hg3) (fun hk => own_far O3 hpc (by decide) p hk.symm rfl) (fun k hk => by have := (own_size O3 k hk.symm).1; have := HPB.out; have := HNB.out; omega)
        have G3 : Fr2 p b w w3 := Fr.grown (S := fun i => i = p ∨ i = b) (HF2'.out.alloc (Obj.cells (JSt.vals y).toArray 119)).drew hg3 (fun k hk => .inr (by have := (own_size O3 k hk).1; omega))
        obtain ⟨A3, cA3, rfl, _⟩ := own_shape ho3
        have ho3' : w3.ownsRow (w.heap.size + 1) 119 10 (.slice A3 (xs.length + 1) cA3) (xs ++ [y]).length ((xs ++ [y]).flatMap JSt.vals) := by rw [HYL.out, ← HYF.out]; exact ho3
        have q0 := B3.cell o
        have q1 := B3.lt
        have q2 := B3.frozens
        rw [List.getElem?_set_self HOL.out] at q0
        have HO3 := Lib.hid ho3'
        have HB3 := Lib.hid B3
        have HN3 := Lib.hid N3
        have HP3 := Lib.hid P3
        have HG3 := Lib.hid G3
        clear ho3 ho3' hg3 hat3 B3 N3 P2 pc hpc P3 G3 O3 HO2 HB2 HN2 HP2 HF2' HYF m0 m1
        repeat (first
          | (apply wpO_pure rfl rfl; (focus (intro w'; go_simp; (try rfl); done)); try simp only [Act.put, List.setIfInBounds_toArray, List.set_cons_zero, List.set_cons_succ])
          | (apply wpO_read rfl rfl; (focus (intro w' hf' hs'; (try simp only [World.size_drew, World.cell?_drew, World.size_alloc, World.size_setCell] at hs'); go_simp; (try rfl); done)); try simp only [Act.put, List.setIfInBounds_toArray, List.set_cons_zero, List.set_cons_succ])
          | (apply wpO_skip (by decide) rfl rfl; try simp only [Act.put, List.setIfInBounds_toArray, List.set_cons_zero, List.set_cons_succ]))
        refine wpO_loud rfl fun K hK => ?_
        go_simp
        refine hK _ _ ?_
        clear hK K
        repeat (first
          | (apply wpO_pure rfl rfl; (focus (intro w'; go_simp; (try rfl); done)); try simp only [Act.put, List.setIfInBounds_toArray, List.set_cons_zero, List.set_cons_succ])
          | (apply wpO_read rfl rfl; (focus (intro w' hf' hs'; (try simp only [World.size_drew, World.cell?_drew, World.size_alloc, World.size_setCell] at hs'); go_simp; (try rfl); done)); try simp only [Act.put, List.setIfInBounds_toArray, List.set_cons_zero, List.set_cons_succ])
          | (apply wpO_skip (by decide) rfl rfl; try simp only [Act.put, List.setIfInBounds_toArray, List.set_cons_zero, List.set_cons_succ]))
        refine wpO_nil ?_
        go_wp2
        go_roundg (N - (i + 1))
        case measure => omega
        case rel =>
          have hpx := (HB3.out.set_ o (.slice A3 (xs.length + 1) cA3))
          rw [List.set_set] at hpx
          refine ⟨i + 1, _, s2, xs ++ [y], by omega, by go_num, HP3.out.fr (S := fun i => i = b) ((Fr.refl (fun i => i = b) w3).setCell (p := ⟨b, o, none⟩) (.inl rfl) (.slice A3 (xs.length + 1) cA3)) (fun e => hbp e.symm) (fun k hk => hk ▸ hb), hpx, HN3.out.far (p := ⟨b, o, none⟩) (fun e => hbn e.symm) _, own_fr HO3.out ((Fr.refl (fun i => i = b) w3).setCell (p := ⟨b, o, none⟩) (.inl rfl) _) (fun k hk hS => own_far HO3.out HB3.out htb k hk hS), by have := HYL.out; have := HXL.out; omega, ?_, fun _ => ⟨rfl, hN⟩, Fr.setCell HG3.out (p := ⟨b, o, none⟩) (.inl (.inr rfl)) _⟩
          rw [Nat.sub_sub] at HFX
          exact HFX.out
      · have hlt1 : ¬ (i : Int) < (N : Int) := by omega
        have hFx := HFO.out
        rw [show N - i = 0 by omega, foldR_zero] at hFx
        have HFX := Lib.hid hFx
        clear hFx
        go_wp2
        refine bodyPost_end (v := .tuple #[]) (by simp [results, Try.results99, go_sem]) rfl ⟨⟨_, rfl⟩, ?_, ?_, HFR.out⟩
        · rw [← HFX.out]; exact HP.out
        · rw [← HFX.out]; exact ⟨v, HBL.out, own_mono HO.out (Nat.le_succ _)⟩
    · have hFx := HFO.out
      rw [foldR_bad] at hFx
      have HFX := Lib.hid hFx
      clear hFx
      by_cases hlt : (i : Int) < n2
      · go_wp2
        refine bodyPost_end (v := .tuple #[]) (by simp [results, Try.results99, go_sem]) rfl ⟨⟨_, rfl⟩, ?_, ?_, HFR.out⟩
        · rw [← HFX.out]; exact HP.out
        · rw [← HFX.out]; exact ⟨v, HBL.out, own_mono HO.out (Nat.le_succ _)⟩
      · go_wp2
        refine bodyPost_end (v := .tuple #[]) (by simp [results, Try.results99, go_sem]) rfl ⟨⟨_, rfl⟩, ?_, ?_, HFR.out⟩
        · rw [← HFX.out]; exact HP.out
        · rw [← HFX.out]; exact ⟨v, HBL.out, own_mono HO.out (Nat.le_succ _)⟩
set_option maxRecDepth 100000 in
set_option maxHeartbeats 4000000 in
theorem listR_cond (rs : RS → RS × CondS) (p base b o : Nat) (s : RS) (t : TypeId) (cs : List Value) (most : Nat) (w : World) (h : PipeR w p base s) (hp : base ≤ p) (hb : base ≤ b) (hB : Blk w b t cs) (hc : cs[o]? = some (.slice none 0 0)) (hbp : b ≠ p) (htb : t ≠ 131)
    (hmost : most ≤ 4096) (hpart : PartR 102 131 CondS.vals CondS.zero rs p base) :
    Calls Try.prog 101 #[.pointer (some ⟨p, 0, none⟩), .pointer (some ⟨b, o, none⟩), .int .i64 most, .func (.func 102) #[] #[]] w fun e w' => (∃ u, e = .returned u) ∧ PipeR w' p base (listS rs s most).1 ∧ (∃ v, Blk w' b t (cs.set o v) ∧ w'.ownsRow w.heap.size 131 2 v (listS rs s most).2.length ((listS rs s most).2.flatMap CondS.vals)) ∧ Fr2 p b w w' := by
  have n0 := (hB.cell o).trans hc
  have n1 := hB.lt
  have hol := (List.getElem?_eq_some_iff.1 hc).1
  have HPB := Lib.hid (show base ≤ w.heap.size by have := (PipeR.cells h).2.2.1; omega)
  have hwp : w.heap.size ≠ p := by have := (PipeR.cells h).2.2.1; omega
  have hwb : b ≠ w.heap.size := by have := hB.lt; omega
  have HN0 := Lib.hid (manyR_any p base w.heap.size 0 s 3 [.int .i64 0] 0 most _ (h.fr0 ((Fr.refl No w).alloc (Obj.cells #[.int .i64 0] 3))) hp HPB.out (Blk.new w 3 [.int .i64 0]) rfl hwp)
  have HFA := Lib.hid ((Fr.refl No w).alloc (Obj.cells #[.int .i64 0] 3))
  have HPT := Lib.hid hpart
  have HM := Lib.hid hmost
  have HB := Lib.hid hB
  have HC := Lib.hid hc
  have HOL := Lib.hid hol
  have hpos : (manyS s 0 most).1.1 = false → 0 ≤ (manyS s 0 most).2 ∧ (manyS s 0 most).2 ≤ most := fun hz => by
    unfold manyS at hz ⊢
    simp only [Bool.or_eq_false_iff, decide_eq_false_iff_not] at hz
    omega
  unfold listS
  obtain ⟨⟨⟨bd, rest⟩, n2⟩, hs1⟩ : ∃ x, x = manyS s 0 most := ⟨_, rfl⟩
  rw [← hs1] at HN0 hpos ⊢
  simp only at HN0 hpos ⊢
  obtain ⟨nb, hnb⟩ : ∃ nb, nb = w.heap.size := ⟨_, rfl⟩
  rw [← hnb] at HN0 hwp hwb
  have HNB := Lib.hid hnb
  clear hnb hs1 h hB hc hpart hmost hol
  obtain ⟨N, hNN⟩ : ∃ N, N = n2.toNat := ⟨_, rfl⟩
  rw [← hNN]
  have HNN := Lib.hid hNN
  clear hNN
  obtain ⟨F, hF⟩ : ∃ F, F = foldR rs N (bd, rest) [] := ⟨_, rfl⟩
  rw [← hF]
  have HF := Lib.hid hF
  clear hF
  go_enter Try.func101, Try.ntmps101
  go_wp2_with (rw [← HNB.out]; go_at_call 111; refine HN0.out.mono ?_; rintro e w1 ⟨⟨u1, rfl⟩, hp1, hb1, hf1⟩; have HP1 := Lib.hid hp1; have HN1 := Lib.hid hb1; have F1 : Fr2 p nb w w1 := (HFA.out.any _).trans hf1; have HF01 := Lib.hid F1; have B1 := HB.out.fr F1 (fun hk => by rcases hk with e | e; exact hbp e; exact hwb e); have HB1 := Lib.hid B1; clear hp1 hb1 hf1 F1 B1 n0 n1)
  have HPOS := Lib.hid hpos
  have HF1 := Lib.hid (HF01.out.new b (Nat.le_of_eq HNB.out.symm))
  have hbn := hwb
  clear hpos hwb
  go_loopg [9] N (fun g v9 wr => LRRel rs CondS.vals w p base nb b o t 131 2 cs N n2 F g v9 wr)
  case atStart => exact ⟨0, .slice none 0 0, (bd, rest), [], by omega, rfl, HP1.out, by rw [set_self HC.out]; exact HB1.out, HN1.out, World.ownsRow_nil w1 _ _ _, rfl, HF.out.symm, fun hz => by have := HPOS.out hz; have := HM.out; have := HNN.out; omega, HF1.out⟩
  case round =>
    clear HP1 HN1 HF01 HB1 HF1
    obtain ⟨i, v, ⟨bi, li⟩, xs, hgi, rfl, hpr, hbl, hnl, hown, hxl, hfo, hst, hf⟩ := hrel
    have HP := Lib.hid hpr
    have HBL := Lib.hid hbl
    have HNL := Lib.hid hnl
    have HO := Lib.hid hown
    have HXL := Lib.hid hxl
    have HFO := Lib.hid hfo
    have HFR := Lib.hid hf
    have HST := Lib.hid hst
    have hi0 : (0 : Int) ≤ (i : Int) := by omega
    obtain ⟨c1, c2, c4, c3⟩ := hpr.cells
    simp only at c2
    have e0 := hnl.cell 0
    have e1 := hnl.lt
    simp only [List.getElem?_cons_zero] at e0
    clear hpr hbl hnl hown hxl hfo hst hf
    cases bi
    · obtain ⟨hn2, hN⟩ := HST.out rfl
      subst hn2
      by_cases hlt : i < N
      · have hlt1 : (i : Int) < (N : Int) := by omega
        obtain ⟨A, cA, rfl, _⟩ := own_shape HO.out
        have HPTw := Lib.hid (HPT.out (wr.alloc (Obj.cells (CondS.vals CondS.zero).toArray 131)) li wr.heap.size (HP.out.fr0 ((Fr.refl No wr).alloc _)) (Nat.le_trans HPB.out HFR.out.size) (Blk.new wr 131 (CondS.vals CondS.zero)))
        have hFx := HFO.out
        rw [show N - i = (N - i - 1) + 1 by omega, foldR_succ] at hFx
        have HFX := Lib.hid hFx
        clear hFx
        go_wp2_with (first
          | (go_at_call 102; refine HPTw.out.mono ?_; rintro e w2 ⟨⟨u2, rfl⟩, hp2, hx2, hf2⟩; have HP2 := Lib.hid hp2; have HX2 := Lib.hid hx2; have HF2 := Lib.hid hf2; obtain ⟨d1, d2, d4, d3⟩ := hp2.cells; clear hp2 hx2 hf2))
        obtain ⟨iT, zT, hiT, hzT, hzs, hsT, hbT⟩ := infoB_parts (e := 131) (sz := 2) (by kernel_rfl)
        obtain ⟨y, hy⟩ : ∃ y, y = (rs (false, li)).2 := ⟨_, rfl⟩
        rw [← hy] at HX2 HFX
        obtain ⟨s2, hs2⟩ : ∃ s2, s2 = (rs (false, li)).1 := ⟨_, rfl⟩
        rw [← hs2] at HP2 HFX
        clear hy hs2
        have hx2 := HX2.out
        have x0 := hx2.cell 0; have x1 := hx2.cell 1
        have xl := hx2.lt
        have hbx : b ≠ wr.heap.size := by have := HBL.out.lt; omega
        have B2 := (HBL.out.alloc (Obj.cells (CondS.vals CondS.zero).toArray 131)).fr HF2.out (fun hk => by rcases hk with e | e; exact hbp e; exact hbx e)
        have N2 := (HNL.out.alloc (Obj.cells (CondS.vals CondS.zero).toArray 131)).fr HF2.out (fun hk => by rcases hk with e | e; exact hwp e; have := HNL.out.lt; omega)
        obtain ⟨pc, hpc⟩ := HP.out.blk
        have O2 := own_fr (own_fr0 HO.out ((Fr.refl No wr).alloc (Obj.cells (CondS.vals CondS.zero).toArray 131))) HF2.out (fun k hk hS => by
          rcases hS with e | e
          · exact own_far HO.out hpc (by decide) k hk e
          · have := (own_size HO.out k hk).2; omega)
        have m0 := B2.cell o
        rw [List.getElem?_set_self HOL.out] at m0
        have m1 := B2.lt
        have F2 : Fr2 p b w w2 := Fr2.pb HF2.out b w (Fr.alloc HFR.out _) HFR.out.size
        have HF2' := Lib.hid F2
        have HB2 := Lib.hid B2
        have HN2 := Lib.hid N2
        have HO2 := Lib.hid O2
        have HYL := Lib.hid (show (xs ++ [y]).length = xs.length + 1 by simp)
        have HYF := Lib.hid (show xs.flatMap CondS.vals ++ CondS.vals y = (xs ++ [y]).flatMap CondS.vals by simp)
        clear hx2 B2 N2 O2 F2 hpc e0 e1 c1 c2 c3 c4
        refine wp_region_o [(0, 0), (1, 0), (2, 0), (3, 1), (4, 1), (5, 2), (6, 3), (7, 0), (8, 3)] (by kernel_rfl) (by kernel_rfl) ?_
        repeat (first
          | (apply wpO_pure rfl rfl; (focus (intro w'; go_simp; (try rfl); done)); try simp only [Act.put, List.setIfInBounds_toArray, List.set_cons_zero, List.set_cons_succ])
          | (apply wpO_read rfl rfl; (focus (intro w' hf' hs'; (try simp only [World.size_drew, World.cell?_drew, World.size_alloc, World.size_setCell] at hs'); go_simp; (try rfl); done)); try simp only [Act.put, List.setIfInBounds_toArray, List.set_cons_zero, List.set_cons_succ])
          | (apply wpO_skip (by decide) rfl rfl; try simp only [Act.put, List.setIfInBounds_toArray, List.set_cons_zero, List.set_cons_succ]))
        refine wpO_loudE rfl fun K hK => ?_
        go_simp
        refine hK _ _ ⟨by (repeat (first | exact Fr.refl _ _ | assumption | refine Fr.drew ?_ | refine Fr.alloc ?_ _ | refine Fr.drewL ?_)), ?_⟩
        clear hK K
        repeat (first
          | (apply wpO_pure rfl rfl; (focus (intro w'; go_simp; (try rfl); done)); try simp only [Act.put, List.setIfInBounds_toArray, List.set_cons_zero, List.set_cons_succ])
          | (apply wpO_read rfl rfl; (focus (intro w' hf' hs'; (try simp only [World.size_drew, World.cell?_drew, World.size_alloc, World.size_setCell] at hs'); go_simp; (try rfl); done)); try simp only [Act.put, List.setIfInBounds_toArray, List.set_cons_zero, List.set_cons_succ])
          | (apply wpO_skip (by decide) rfl rfl; try simp only [Act.put, List.setIfInBounds_toArray, List.set_cons_zero, List.set_cons_succ]))
        have O3 := own_fr0 HO2.out (((Fr.refl No w2).alloc (Obj.cells (CondS.vals y).toArray 131)).drew)
        refine wpO_loud rfl fun K hK => ?_
        refine step_append_owned (by rfl) (.tmp 51) (.tmp 53) 58 (by rfl) (w.heap.size + 1) 131 iT zT 2 iT.bytes Try.underlying58 hiT hzT hsT rfl hzs (by omega) (.slice A xs.length cA) xs.length (xs.flatMap CondS.vals) (by rfl) O3 (some ⟨w2.heap.size, 0, none⟩) 1 1 131 (CondS.vals y) (by rfl) (Sl.of_new w2 131 2 1 (CondS.vals y).toArray (CondS.vals y) rfl rfl).drew (List.all_eq_true.1 (by rfl)) (by have := HXL.out; simp only [maxLen]; omega) (by
          have := HXL.out
          have h1 : (xs.length + 1) * iT.bytes ≤ 4097 * 100 := Nat.mul_le_mul (by omega) hbT
          omega) (by have := HF2'.out.size; have := HPB.out; have := HNL.out.lt; have := HF2.out.size; have := HNB.out; simp only [World.size_drew, World.size_alloc] at *; omega) ?_
        intro v2 w3 ho3 hg3 hat3
        refine hK _ _ ?_
        clear hK K
        try simp only [Act.put, List.setIfInBounds_toArray, List.set_cons_zero, List.set_cons_succ]
        have B3 := Blk.grown (HB2.out.alloc (Obj.cells (CondS.vals y).toArray 131)).drew hg3 (fun k hk => own_far O3 (HB2.out.alloc (Obj.cells (CondS.vals y).toArray 131)).drew htb k hk)
        have N3 := Blk.grown (HN2.out.alloc (Obj.cells (CondS.vals y).toArray 131)).drew hg3 (fun k hk => by have := (own_size O3 k hk).1; have := HNB.out; omega)
        have P2 := HP2.out.fr0 ((Fr.refl No w2).alloc (Obj.cells (CondS.vals y).toArray 131)).drew
        obtain ⟨pc, hpc⟩ := P2.blk
        have P3 : PipeR w3 p base s2 := P2.fr (Fr.of_grown hg3) (fun hk => own_far O3 hpc (by decide) p hk.symm rfl) (fun k hk => by have := (own_size O3 k hk.symm).1; have := HPB.out; have := HNB.out; omega)
        have G3 : Fr2 p b w w3 := Fr.grown (S := fun i => i = p ∨ i = b) (HF2'.out.alloc (Obj.cells (CondS.vals y).toArray 131)).drew hg3 (fun k hk => .inr (by have := (own_size O3 k hk).1; omega))
        obtain ⟨A3, cA3, rfl, _⟩ := own_shape ho3
        have ho3' : w3.ownsRow (w.heap.size + 1) 131 2 (.slice A3 (xs.length + 1) cA3) (xs ++ [y]).length ((xs ++ [y]).flatMap CondS.vals) := by rw [HYL.out, ← HYF.out]; exact ho3
        have q0 := B3.cell o
        have q1 := B3.lt
        have q2 := B3.frozens
        rw [List.getElem?_set_self HOL.out] at q0
        have HO3 := Lib.hid ho3'
        have HB3 := Lib.hid B3
        have HN3 := Lib.hid N3
        have HP3 := Lib.hid P3
        have HG3 := Lib.hid G3
        clear ho3 ho3' hg3 hat3 B3 N3 P2 pc hpc P3 G3 O3 HO2 HB2 HN2 HP2 HF2' HYF m0 m1
        repeat (first
          | (apply wpO_pure rfl rfl; (focus (intro w'; go_simp; (try rfl); done)); try simp only [Act.put, List.setIfInBounds_toArray, List.set_cons_zero, List.set_cons_succ])
          | (apply wpO_read rfl rfl; (focus (intro w' hf' hs'; (try simp only [World.size_drew, World.cell?_drew, World.size_alloc, World.size_setCell] at hs'); go_simp; (try rfl); done)); try simp only [Act.put, List.setIfInBounds_toArray, List.set_cons_zero, List.set_cons_succ])
          | (apply wpO_skip (by decide) rfl rfl; try simp only [Act.put, List.setIfInBounds_toArray, List.set_cons_zero, List.set_cons_succ]))
        refine wpO_loud rfl fun K hK => ?_
        go_simp
        refine hK _ _ ?_
        clear hK K
        repeat (first
          | (apply wpO_pure rfl rfl; (focus (intro w'; go_simp; (try rfl); done)); try simp only [Act.put, List.setIfInBounds_toArray, List.set_cons_zero, List.set_cons_succ])
          | (apply wpO_read rfl rfl; (focus (intro w' hf' hs'; (try simp only [World.size_drew, World.cell?_drew, World.size_alloc, World.size_setCell] at hs'); go_simp; (try rfl); done)); try simp only [Act.put, List.setIfInBounds_toArray, List.set_cons_zero, List.set_cons_succ])
          | (apply wpO_skip (by decide) rfl rfl; try simp only [Act.put, List.setIfInBounds_toArray, List.set_cons_zero, List.set_cons_succ]))
        refine wpO_nil ?_
        go_wp2
        go_roundg (N - (i + 1))
        case measure => omega
        case rel =>
          have hpx := (HB3.out.set_ o (.slice A3 (xs.length + 1) cA3))
          rw [List.set_set] at hpx
          refine ⟨i + 1, _, s2, xs ++ [y], by omega, by go_num, HP3.out.fr (S := fun i => i = b) ((Fr.refl (fun i => i = b) w3).setCell (p := ⟨b, o, none⟩) (.inl rfl) (.slice A3 (xs.length + 1) cA3)) (fun e => hbp e.symm) (fun k hk => hk ▸ hb), hpx, HN3.out.far (p := ⟨b, o, none⟩) (fun e => hbn e.symm) _, own_fr HO3.out ((Fr.refl (fun i => i = b) w3).setCell (p := ⟨b, o, none⟩) (.inl rfl) _) (fun k hk hS => own_far HO3.out HB3.out htb k hk hS), by have := HYL.out; have := HXL.out; omega, ?_, fun _ => ⟨rfl, hN⟩, Fr.setCell HG3.out (p := ⟨b, o, none⟩) (.inl (.inr rfl)) _⟩
          rw [Nat.sub_sub] at HFX
          exact HFX.out
      · have hlt1 : ¬ (i : Int) < (N : Int) := by omega
        have hFx := HFO.out
        rw [show N - i = 0 by omega, foldR_zero] at hFx
        have HFX := Lib.hid hFx
        clear hFx
        go_wp2
        refine bodyPost_end (v := .tuple #[]) (by simp [results, Try.results101, go_sem]) rfl ⟨⟨_, rfl⟩, ?_, ?_, HFR.out⟩
        · rw [← HFX.out]; exact HP.out
        · rw [← HFX.out]; exact ⟨v, HBL.out, own_mono HO.out (Nat.le_succ _)⟩
    · have hFx := HFO.out
      rw [foldR_bad] at hFx
      have HFX := Lib.hid hFx
      clear hFx
      by_cases hlt : (i : Int) < n2
      · go_wp2
        refine bodyPost_end (v := .tuple #[]) (by simp [results, Try.results101, go_sem]) rfl ⟨⟨_, rfl⟩, ?_, ?_, HFR.out⟩
        · rw [← HFX.out]; exact HP.out
        · rw [← HFX.out]; exact ⟨v, HBL.out, own_mono HO.out (Nat.le_succ _)⟩
      · go_wp2
        refine bodyPost_end (v := .tuple #[]) (by simp [results, Try.results101, go_sem]) rfl ⟨⟨_, rfl⟩, ?_, ?_, HFR.out⟩
        · rw [← HFX.out]; exact HP.out
        · rw [← HFX.out]; exact ⟨v, HBL.out, own_mono HO.out (Nat.le_succ _)⟩
end Go.Proofs.Ytegogggemmcgdaa

/- codec: lists of resources and holdings that are read. -/
namespace Go.Proofs.Ytegogggemmcgdaa
open Go Go.RowKit Go.Proofs

abbrev ResS.zero : ResS := ⟨⟨#[]⟩, 0, false⟩
abbrev HeldS.zero : HeldS := ⟨0, ⟨#[]⟩, 0, 0⟩
set_option maxRecDepth 100000 in
set_option maxHeartbeats 4000000 in
theorem listR_res (rs : RS → RS × ResS) (p base b o : Nat) (s : RS) (t : TypeId) (cs : List Value) (most : Nat) (w : World) (h : PipeR w p base s) (hp : base ≤ p) (hb : base ≤ b) (hB : Blk w b t cs) (hc : cs[o]? = some (.slice none 0 0)) (hbp : b ≠ p) (htb : t ≠ 122)
    (hmost : most ≤ 4096) (hpart : PartR 104 122 ResS.vals ResS.zero rs p base) :
    Calls Try.prog 103 #[.pointer (some ⟨p, 0, none⟩), .pointer (some ⟨b, o, none⟩), .int .i64 most, .func (.func 104) #[] #[]] w fun e w' => (∃ u, e = .returned u) ∧ PipeR w' p base (listS rs s most).1 ∧ (∃ v, Blk w' b t (cs.set o v) ∧ w'.ownsRow w.heap.size 122 3 v (listS rs s most).2.length ((listS rs s most).2.flatMap ResS.vals)) ∧ Fr2 p b w w' := by
  have n0 := (hB.cell o).trans hc
  have n1 := hB.lt
  have hol := (List.getElem?_eq_some_iff.1 hc).1
  have HPB := Lib.hid (show base ≤ w.heap.size by have := (PipeR.cells h).2.2.1; omega)
  have hwp : w.heap.size ≠ p := by have := (PipeR.cells h).2.2.1; omega
  have hwb : b ≠ w.heap.size := by have := hB.lt; omega
  have HN0 := Lib.hid (manyR_any p base w.heap.size 0 s 3 [.int .i64 0] 0 most _ (h.fr0 ((Fr.refl No w).alloc (Obj.cells #[.int .i64 0] 3))) hp HPB.out (Blk.new w 3 [.int .i64 0]) rfl hwp)
  have HFA := Lib.hid ((Fr.refl No w).alloc (Obj.cells #[.int .i64 0] 3))
  have HPT := Lib.hid hpart
  have HM := Lib.hid hmost
  have HB := Lib.hid hB
  have HC := Lib.hid hc
  have HOL := Lib.hid hol
  have hpos : (manyS s 0 most).1.1 = false → 0 ≤ (manyS s 0 most).2 ∧ (manyS s 0 most).2 ≤ most := fun hz => by
    unfold manyS at hz ⊢
    simp only [Bool.or_eq_false_iff, decide_eq_false_iff_not] at hz
    omega
  unfold listS
  obtain ⟨⟨⟨bd, rest⟩, n2⟩, hs1⟩ : ∃ x, x = manyS s 0 most := ⟨_, rfl⟩
  rw [← hs1] at HN0 hpos ⊢
  simp only at HN0 hpos ⊢
  obtain ⟨nb, hnb⟩ : ∃ nb, nb = w.heap.size := ⟨_, rfl⟩
  rw [← hnb] at HN0 hwp hwb
  have HNB := Lib.hid hnb
  clear hnb hs1 h hB hc hpart hmost hol
  obtain ⟨N, hNN⟩ : ∃ N, N = n2.toNat := ⟨_, rfl⟩
  rw [← hNN]
  have HNN := Lib.hid hNN
  clear hNN
  obtain ⟨F, hF⟩ : ∃ F, F = foldR rs N (bd, rest) [] := ⟨_, rfl⟩
  rw [← hF]
  have HF := Lib.hid hF
  clear hF
  go_enter Try.func103, Try.ntmps103
  go_wp2_with (rw [← HNB.out]; go_at_call 111; refine HN0.out.mono ?_; rintro e w1 ⟨⟨u1, rfl⟩, hp1, hb1, hf1⟩; have HP1 := Lib.hid hp1; have HN1 := Lib.hid hb1; have F1 : Fr2 p nb w w1 := (HFA.out.any _).trans hf1; have HF01 := Lib.hid F1; have B1 := HB.out.fr F1 (fun hk => by rcases hk with e | e; exact hbp e; exact hwb e); have HB1 := Lib.hid B1; clear hp1 hb1 hf1 F1 B1 n0 n1)
  have HPOS := Lib.hid hpos
  have HF1 := Lib.hid (HF01.out.new b (Nat.le_of_eq HNB.out.symm))
  have hbn := hwb
  clear hpos hwb
  go_loopg [9] N (fun g v9 wr => LRRel rs ResS.vals w p base nb b o t 122 3 cs N n2 F g v9 wr)
  case atStart => exact ⟨0, .slice none 0 0, (bd, rest), [], by omega, rfl, HP1.out, by rw [set_self HC.out]; exact HB1.out, HN1.out, World.ownsRow_nil w1 _ _ _, rfl, HF.out.symm, fun hz => by have := HPOS.out hz; have := HM.out; have := HNN.out; omega, HF1.out⟩
  case round =>
    clear HP1 HN1 HF01 HB1 HF1
    obtain ⟨i, v, ⟨bi, li⟩, xs, hgi, rfl, hpr, hbl, hnl, hown, hxl, hfo, hst, hf⟩ := hrel
    have HP := Lib.hid hpr
    have HBL := Lib.hid hbl
    have HNL := Lib.hid hnl
    have HO := Lib.hid hown
    have HXL := Lib.hid hxl
    have HFO := Lib.hid hfo
    have HFR := Lib.hid hf
    have HST := Lib.hid hst
    have hi0 : (0 : Int) ≤ (i : Int) := by omega
    obtain ⟨c1, c2, c4, c3⟩ := hpr.cells
    simp only at c2
    have e0 := hnl.cell 0
    have e1 := hnl.lt
    simp only [List.getElem?_cons_zero] at e0
    clear hpr hbl hnl hown hxl hfo hst hf
    cases bi
    · obtain ⟨hn2, hN⟩ := HST.out rfl
      subst hn2
      by_cases hlt : i < N
      · have hlt1 : (i : Int) < (N : Int) := by omega
        obtain ⟨A, cA, rfl, _⟩ := own_shape HO.out
        have HPTw := Lib.hid (HPT.out (wr.alloc (Obj.cells (ResS.vals ResS.zero).toArray 122)) li wr.heap.size (HP.out.fr0 ((Fr.refl No wr).alloc _)) (Nat.le_trans HPB.out HFR.out.size) (Blk.new wr 122 (ResS.vals ResS.zero)))
        have hFx := HFO.out
        rw [show N - i = (N - i - 1) + 1 by omega, foldR_succ] at hFx
        have HFX := Lib.hid hFx
        clear hFx
        go_wp2_with (first
          | (go_at_call 104; refine HPTw.out.mono ?_; rintro e w2 ⟨⟨u2, rfl⟩, hp2, hx2, hf2⟩; have HP2 := Lib.hid hp2; have HX2 := Lib.hid hx2; have HF2 := Lib.hid hf2; obtain ⟨d1, d2, d4, d3⟩ := hp2.cells; clear hp2 hx2 hf2))
        obtain ⟨iT, zT, hiT, hzT, hzs, hsT, hbT⟩ := infoB_parts (e := 122) (sz := 3) (by kernel_rfl)
        obtain ⟨y, hy⟩ : ∃ y, y = (rs (false, li)).2 := ⟨_, rfl⟩
        rw [← hy] at HX2 HFX
        obtain ⟨s2, hs2⟩ : ∃ s2, s2 = (rs (false, li)).1 := ⟨_, rfl⟩
        rw [← hs2] at HP2 HFX
        clear hy hs2
        have hx2 := HX2.out
        have x0 := hx2.cell 0; have x1 := hx2.cell 1; have x2 := hx2.cell 2
        have xl := hx2.lt
        have hbx : b ≠ wr.heap.size := by have := HBL.out.lt; omega
        have B2 := (HBL.out.alloc (Obj.cells (ResS.vals ResS.zero).toArray 122)).fr HF2.out (fun hk => by rcases hk with e | e; exact hbp e; exact hbx e)
        have N2 := (HNL.out.alloc (Obj.cells (ResS.vals ResS.zero).toArray 122)).fr HF2.out (fun hk => by rcases hk with e | e; exact hwp e; have := HNL.out.lt; omega)
        obtain ⟨pc, hpc⟩ := HP.out.blk
        have O2 := own_fr (own_fr0 HO.out ((Fr.refl No wr).alloc (Obj.cells (ResS.vals ResS.zero).toArray 122))) HF2.out (fun k hk hS => by
          rcases hS with e | e
          · exact own_far HO.out hpc (by decide) k hk e
          · have := (own_size HO.out k hk).2; omega)
        have m0 := B2.cell o
        rw [List.getElem?_set_self HOL.out] at m0
        have m1 := B2.lt
        have F2 : Fr2 p b w w2 := Fr2.pb HF2.out b w (Fr.alloc HFR.out _) HFR.out.size
        have HF2' := Lib.hid F2
        have HB2 := Lib.hid B2
        have HN2 := Lib.hid N2
        have HO2 := Lib.hid O2
        have HYL := Lib.hid (show (xs ++ [y]).length = xs.length + 1 by simp)
        have HYF := Lib.hid (show xs.flatMap ResS.vals ++ ResS.vals y = (xs ++ [y]).flatMap ResS.vals by simp)
        clear hx2 B2 N2 O2 F2 hpc e0 e1 c1 c2 c3 c4
        refine wp_region_o [(0, 0), (1, 0), (2, 0), (3, 1), (4, 1), (5, 2), (6, 3), (7, 0), (8, 3)] (by kernel_rfl) (by kernel_rfl) ?_
        repeat (first
          | (apply wpO_pure rfl rfl; (focus (intro w'; go_simp; (try rfl); done)); try simp only [Act.put, List.setIfInBounds_toArray, List.set_cons_zero, List.set_cons_succ])
          | (apply wpO_read rfl rfl; (focus (intro w' hf' hs'; (try simp only [World.size_drew, World.cell?_drew, World.size_alloc, World.size_setCell] at hs'); go_simp; (try rfl); done)); try simp only [Act.put, List.setIfInBounds_toArray, List.set_cons_zero, List.set_cons_succ])
          | (apply wpO_skip (by decide) rfl rfl; try simp only [Act.put, List.setIfInBounds_toArray, List.set_cons_zero, List.set_cons_succ]))
        refine wpO_loudE rfl fun K hK => ?_
        go_simp
        refine hK _ _ ⟨by (repeat (first | exact Fr.refl _ _ | assumption | refine Fr.drew ?_ | refine Fr.alloc ?_ _ | refine Fr.drewL ?_)), ?_⟩
        clear hK K
        repeat (first
          | (apply wpO_pure rfl rfl; (focus (intro w'; go_simp; (try rfl); done)); try simp only [Act.put, List.setIfInBounds_toArray, List.set_cons_zero, List.set_cons_succ])
          | (apply wpO_read rfl rfl; (focus (intro w' hf' hs'; (try simp only [World.size_drew, World.cell?_drew, World.size_alloc, World.size_setCell] at hs'); go_simp; (try rfl); done)); try simp only [Act.put, List.setIfInBounds_toArray, List.set_cons_zero, List.set_cons_succ])
          | (apply wpO_skip (by decide) rfl rfl; try simp only [Act.put, List.setIfInBounds_toArray, List.set_cons_zero, List.set_cons_succ]))
        have O3 := own_fr0 HO2.out (((Fr.refl No w2).alloc (Obj.cells (ResS.vals y).toArray 122)).drew)
        refine wpO_loud rfl fun K hK => ?_
        refine step_append_owned (by rfl) (.tmp 51) (.tmp 53) 64 (by rfl) (w.heap.size + 1) 122 iT zT 3 iT.bytes Try.underlying64 hiT hzT hsT rfl hzs (by omega) (.slice A xs.length cA) xs.length (xs.flatMap ResS.vals) (by rfl) O3 (some ⟨w2.heap.size, 0, none⟩) 1 1 122 (ResS.vals y) (by rfl) (Sl.of_new w2 122 3 1 (ResS.vals y).toArray (ResS.vals y) rfl rfl).drew (List.all_eq_true.1 (by rfl)) (by have := HXL.out; simp only [maxLen]; omega) (by
          have := HXL.out
          have h1 : (xs.length + 1) * iT.bytes ≤ 4097 * 100 := Nat.mul_le_mul (by omega) hbT
          omega) (by have := HF2'.out.size; have := HPB.out; have := HNL.out.lt; have := HF2.out.size; have := HNB.out; simp only [World.size_drew, World.size_alloc] at *; omega) ?_
        intro v2 w3 ho3 hg3 hat3
        refine hK _ _ ?_
        clear hK K
        try simp only [Act.put, List.setIfInBounds_toArray, List.set_cons_zero, List.set_cons_succ]
        have B3 := Blk.grown (HB2.out.alloc (Obj.cells (ResS.vals y).toArray 122)).drew hg3 (fun k hk => own_far O3 (HB2.out.alloc (Obj.cells (ResS.vals y).toArray 122)).drew htb k hk)
        have N3 := Blk.grown (HN2.out.alloc (Obj.cells (ResS.vals y).toArray 122)).drew hg3 (fun k hk => by have := (own_size O3 k hk).1; have := HNB.out; omega)
        have P2 := HP2.out.fr0 ((Fr.refl No w2).alloc (Obj.cells (ResS.vals y).toArray 122)).drew
        obtain ⟨pc, hpc⟩ := P2.blk
        have P3 : PipeR w3 p base s2 := P2.fr (Fr.of_grown hg3) (fun hk => own_far O3 hpc (by decide) p hk.symm rfl) (fun k hk => by have := (own_size O3 k hk.symm).1; have := HPB.out; have := HNB.out; omega)
        have G3 : Fr2 p b w w3 := Fr.grown (S := fun i => i = p ∨ i = b) (HF2'.out.alloc (Obj.cells (ResS.vals y).toArray 122)).drew hg3 (fun k hk => .inr (by have := (own_size O3 k hk).1; omega))
        obtain ⟨A3, cA3, rfl, _⟩ := own_shape ho3
        have ho3' : w3.ownsRow (w.heap.size + 1) 122 3 (.slice A3 (xs.length + 1) cA3) (xs ++ [y]).length ((xs ++ [y]).flatMap ResS.vals) := by rw [HYL.out, ← HYF.out]; exact ho3
        have q0 := B3.cell o
        have q1 := B3.lt
        have q2 := B3.frozens
        rw [List.getElem?_set_self HOL.out] at q0
        have HO3 := Lib.hid ho3'
        have HB3 := Lib.hid B3
        have HN3 := Lib.hid N3
        have HP3 := Lib.hid P3
        have HG3 := Lib.hid G3
        clear ho3 ho3' hg3 hat3 B3 N3 P2 pc hpc P3 G3 O3 HO2 HB2 HN2 HP2 HF2' HYF m0 m1
        repeat (first
          | (apply wpO_pure rfl rfl; (focus (intro w'; go_simp; (try rfl); done)); try simp only [Act.put, List.setIfInBounds_toArray, List.set_cons_zero, List.set_cons_succ])
          | (apply wpO_read rfl rfl; (focus (intro w' hf' hs'; (try simp only [World.size_drew, World.cell?_drew, World.size_alloc, World.size_setCell] at hs'); go_simp; (try rfl); done)); try simp only [Act.put, List.setIfInBounds_toArray, List.set_cons_zero, List.set_cons_succ])
          | (apply wpO_skip (by decide) rfl rfl; try simp only [Act.put, List.setIfInBounds_toArray, List.set_cons_zero, List.set_cons_succ]))
        refine wpO_loud rfl fun K hK => ?_
        go_simp
        refine hK _ _ ?_
        clear hK K
        repeat (first
          | (apply wpO_pure rfl rfl; (focus (intro w'; go_simp; (try rfl); done)); try simp only [Act.put, List.setIfInBounds_toArray, List.set_cons_zero, List.set_cons_succ])
          | (apply wpO_read rfl rfl; (focus (intro w' hf' hs'; (try simp only [World.size_drew, World.cell?_drew, World.size_alloc, World.size_setCell] at hs'); go_simp; (try rfl); done)); try simp only [Act.put, List.setIfInBounds_toArray, List.set_cons_zero, List.set_cons_succ])
          | (apply wpO_skip (by decide) rfl rfl; try simp only [Act.put, List.setIfInBounds_toArray, List.set_cons_zero, List.set_cons_succ]))
        refine wpO_nil ?_
        go_wp2
        go_roundg (N - (i + 1))
        case measure => omega
        case rel =>
          have hpx := (HB3.out.set_ o (.slice A3 (xs.length + 1) cA3))
          rw [List.set_set] at hpx
          refine ⟨i + 1, _, s2, xs ++ [y], by omega, by go_num, HP3.out.fr (S := fun i => i = b) ((Fr.refl (fun i => i = b) w3).setCell (p := ⟨b, o, none⟩) (.inl rfl) (.slice A3 (xs.length + 1) cA3)) (fun e => hbp e.symm) (fun k hk => hk ▸ hb), hpx, HN3.out.far (p := ⟨b, o, none⟩) (fun e => hbn e.symm) _, own_fr HO3.out ((Fr.refl (fun i => i = b) w3).setCell (p := ⟨b, o, none⟩) (.inl rfl) _) (fun k hk hS => own_far HO3.out HB3.out htb k hk hS), by have := HYL.out; have := HXL.out; omega, ?_, fun _ => ⟨rfl, hN⟩, Fr.setCell HG3.out (p := ⟨b, o, none⟩) (.inl (.inr rfl)) _⟩
          rw [Nat.sub_sub] at HFX
          exact HFX.out
      · have hlt1 : ¬ (i : Int) < (N : Int) := by omega
        have hFx := HFO.out
        rw [show N - i = 0 by omega, foldR_zero] at hFx
        have HFX := Lib.hid hFx
        clear hFx
        go_wp2
        refine bodyPost_end (v := .tuple #[]) (by simp [results, Try.results103, go_sem]) rfl ⟨⟨_, rfl⟩, ?_, ?_, HFR.out⟩
        · rw [← HFX.out]; exact HP.out
        · rw [← HFX.out]; exact ⟨v, HBL.out, own_mono HO.out (Nat.le_succ _)⟩
    · have hFx := HFO.out
      rw [foldR_bad] at hFx
      have HFX := Lib.hid hFx
      clear hFx
      by_cases hlt : (i : Int) < n2
      · go_wp2
        refine bodyPost_end (v := .tuple #[]) (by simp [results, Try.results103, go_sem]) rfl ⟨⟨_, rfl⟩, ?_, ?_, HFR.out⟩
        · rw [← HFX.out]; exact HP.out
        · rw [← HFX.out]; exact ⟨v, HBL.out, own_mono HO.out (Nat.le_succ _)⟩
      · go_wp2
        refine bodyPost_end (v := .tuple #[]) (by simp [results, Try.results103, go_sem]) rfl ⟨⟨_, rfl⟩, ?_, ?_, HFR.out⟩
        · rw [← HFX.out]; exact HP.out
        · rw [← HFX.out]; exact ⟨v, HBL.out, own_mono HO.out (Nat.le_succ _)⟩
set_option maxRecDepth 100000 in
set_option maxHeartbeats 4000000 in
theorem listR_held (rs : RS → RS × HeldS) (p base b o : Nat) (s : RS) (t : TypeId) (cs : List Value) (most : Nat) (w : World) (h : PipeR w p base s) (hp : base ≤ p) (hb : base ≤ b) (hB : Blk w b t cs) (hc : cs[o]? = some (.slice none 0 0)) (hbp : b ≠ p) (htb : t ≠ 125)
    (hmost : most ≤ 4096) (hpart : PartR 106 125 HeldS.vals HeldS.zero rs p base) :
    Calls Try.prog 105 #[.pointer (some ⟨p, 0, none⟩), .pointer (some ⟨b, o, none⟩), .int .i64 most, .func (.func 106) #[] #[]] w fun e w' => (∃ u, e = .returned u) ∧ PipeR w' p base (listS rs s most).1 ∧ (∃ v, Blk w' b t (cs.set o v) ∧ w'.ownsRow w.heap.size 125 4 v (listS rs s most).2.length ((listS rs s most).2.flatMap HeldS.vals)) ∧ Fr2 p b w w' := by
  have n0 := (hB.cell o).trans hc
  have n1 := hB.lt
  have hol := (List.getElem?_eq_some_iff.1 hc).1
  have HPB := Lib.hid (show base ≤ w.heap.size by have := (PipeR.cells h).2.2.1; omega)
  have hwp : w.heap.size ≠ p := by have := (PipeR.cells h).2.2.1; omega
  have hwb : b ≠ w.heap.size := by have := hB.lt; omega
  have HN0 := Lib.hid (manyR_any p base w.heap.size 0 s 3 [.int .i64 0] 0 most _ (h.fr0 ((Fr.refl No w).alloc (Obj.cells #[.int .i64 0] 3))) hp HPB.out (Blk.new w 3 [.int .i64 0]) rfl hwp)
  have HFA := Lib.hid ((Fr.refl No w).alloc (Obj.cells #[.int .i64 0] 3))
  have HPT := Lib.hid hpart
  have HM := Lib.hid hmost
  have HB := Lib.hid hB
  have HC := Lib.hid hc
  have HOL := Lib.hid hol
  have hpos : (manyS s 0 most).1.1 = false → 0 ≤ (manyS s 0 most).2 ∧ (manyS s 0 most).2 ≤ most := fun hz => by
    unfold manyS at hz ⊢
    simp only [Bool.or_eq_false_iff, decide_eq_false_iff_not] at hz
    omega
  unfold listS
  obtain ⟨⟨⟨bd, rest⟩, n2⟩, hs1⟩ : ∃ x, x = manyS s 0 most := ⟨_, rfl⟩
  rw [← hs1] at HN0 hpos ⊢
  simp only at HN0 hpos ⊢
  obtain ⟨nb, hnb⟩ : ∃ nb, nb = w.heap.size := ⟨_, rfl⟩
  rw [← hnb] at HN0 hwp hwb
  have HNB := Lib.hid hnb
  clear hnb hs1 h hB hc hpart hmost hol
  obtain ⟨N, hNN⟩ : ∃ N, N = n2.toNat := ⟨_, rfl⟩
  rw [← hNN]
  have HNN := Lib.hid hNN
  clear hNN
  obtain ⟨F, hF⟩ : ∃ F, F = foldR rs N (bd, rest) [] := ⟨_, rfl⟩
  rw [← hF]
  have HF := Lib.hid hF
  clear hF
  go_enter Try.func105, Try.ntmps105
  go_wp2_with (rw [← HNB.out]; go_at_call 111; refine HN0.out.mono ?_; rintro e w1 ⟨⟨u1, rfl⟩, hp1, hb1, hf1⟩; have HP1 := Lib.hid hp1; have HN1 := Lib.hid hb1; have F1 : Fr2 p nb w w1 := (HFA.out.any _).trans hf1; have HF01 := Lib.hid F1; have B1 := HB.out.fr F1 (fun hk => by rcases hk with e | e; exact hbp e; exact hwb e); have HB1 := Lib.hid B1; clear hp1 hb1 hf1 F1 B1 n0 n1)
  have HPOS := Lib.hid hpos
  have HF1 := Lib.hid (HF01.out.new b (Nat.le_of_eq HNB.out.symm))
  have hbn := hwb
  clear hpos hwb
  go_loopg [9] N (fun g v9 wr => LRRel rs HeldS.vals w p base nb b o t 125 4 cs N n2 F g v9 wr)
  case atStart => exact ⟨0, .slice none 0 0, (bd, rest), [], by omega, rfl, HP1.out, by rw [set_self HC.out]; exact HB1.out, HN1.out, World.ownsRow_nil w1 _ _ _, rfl, HF.out.symm, fun hz => by have := HPOS.out hz; have := HM.out; have := HNN.out; omega, HF1.out⟩
  case round =>
    clear HP1 HN1 HF01 HB1 HF1
    obtain ⟨i, v, ⟨bi, li⟩, xs, hgi, rfl, hpr, hbl, hnl, hown, hxl, hfo, hst, hf⟩ := hrel
    have HP := Lib.hid hpr
    have HBL := Lib.hid hbl
    have HNL := Lib.hid hnl
    have HO := Lib.hid hown
    have HXL := Lib.hid hxl
    have HFO := Lib.hid hfo
    have HFR := Lib.hid hf
    have HST := Lib.hid hst
    have hi0 : (0 : Int) ≤ (i : Int) := by omega
    obtain ⟨c1, c2, c4, c3⟩ := hpr.cells
    simp only at c2
    have e0 := hnl.cell 0
    have e1 := hnl.lt
    simp only [List.getElem?_cons_zero] at e0
    clear hpr hbl hnl hown hxl hfo hst hf
    cases bi
    · obtain ⟨hn2, hN⟩ := HST.out rfl
      subst hn2
      by_cases hlt : i < N
      · have hlt1 : (i : Int) < (N : Int) := by omega
        obtain ⟨A, cA, rfl, _⟩ := own_shape HO.out
        have HPTw := Lib.hid (HPT.out (wr.alloc (Obj.cells (HeldS.vals HeldS.zero).toArray 125)) li wr.heap.size (HP.out.fr0 ((Fr.refl No wr).alloc _)) (Nat.le_trans HPB.out HFR.out.size) (Blk.new wr 125 (HeldS.vals HeldS.zero)))
        have hFx := HFO.out
        rw [show N - i = (N - i - 1) + 1 by omega, foldR_succ] at hFx
        have HFX := Lib.hid hFx
        clear hFx
        go_wp2_with (first
          | (go_at_call 106; refine HPTw.out.mono ?_; rintro e w2 ⟨⟨u2, rfl⟩, hp2, hx2, hf2⟩; have HP2 := Lib.hid hp2; have HX2 := Lib.hid hx2; have HF2 := Lib.hid hf2; obtain ⟨d1, d2, d4, d3⟩ := hp2.cells; clear hp2 hx2 hf2))
        obtain ⟨iT, zT, hiT, hzT, hzs, hsT, hbT⟩ := infoB_parts (e := 125) (sz := 4) (by kernel_rfl)
        obtain ⟨y, hy⟩ : ∃ y, y = (rs (false, li)).2 := ⟨_, rfl⟩
        rw [← hy] at HX2 HFX
        obtain ⟨s2, hs2⟩ : ∃ s2, s2 = (rs (false, li)).1 := ⟨_, rfl⟩
        rw [← hs2] at HP2 HFX
        clear hy hs2
        have hx2 := HX2.out
        have x0 := hx2.cell 0; have x1 := hx2.cell 1; have x2 := hx2.cell 2; have x3 := hx2.cell 3
        have xl := hx2.lt
        have hbx : b ≠ wr.heap.size := by have := HBL.out.lt; omega
        have B2 := (HBL.out.alloc (Obj.cells (HeldS.vals HeldS.zero).toArray 125)).fr HF2.out (fun hk => by rcases hk with e | e; exact hbp e; exact hbx e)
        have N2 := (HNL.out.alloc (Obj.cells (HeldS.vals HeldS.zero).toArray 125)).fr HF2.out (fun hk => by rcases hk with e | e; exact hwp e; have := HNL.out.lt; omega)
        obtain ⟨pc, hpc⟩ := HP.out.blk
        have O2 := own_fr (own_fr0 HO.out ((Fr.refl No wr).alloc (Obj.cells (HeldS.vals HeldS.zero).toArray 125))) HF2.out (fun k hk hS => by
          rcases hS with e | e
          · exact own_far HO.out hpc (by decide) k hk e
          · have := (own_size HO.out k hk).2; omega)
        have m0 := B2.cell o
        rw [List.getElem?_set_self HOL.out] at m0
        have m1 := B2.lt
        have F2 : Fr2 p b w w2 := Fr2.pb HF2.out b w (Fr.alloc HFR.out _) HFR.out.size
        have HF2' := Lib.hid F2
        have HB2 := Lib.hid B2
        have HN2 := Lib.hid N2
        have HO2 := Lib.hid O2
        have HYL := Lib.hid (show (xs ++ [y]).length = xs.length + 1 by simp)
        have HYF := Lib.hid (show xs.flatMap HeldS.vals ++ HeldS.vals y = (xs ++ [y]).flatMap HeldS.vals by simp)
        clear hx2 B2 N2 O2 F2 hpc e0 e1 c1 c2 c3 c4
        refine wp_region_o [(0, 0), (1, 0), (2, 0), (3, 1), (4, 1), (5, 2), (6, 3), (7, 0), (8, 3)] (by kernel_rfl) (by kernel_rfl) ?_
        repeat (first
          | (apply wpO_pure rfl rfl; (focus (intro w'; go_simp; (try rfl); done)); try simp only [Act.put, List.setIfInBounds_toArray, List.set_cons_zero, List.set_cons_succ])
          | (apply wpO_read rfl rfl; (focus (intro w' hf' hs'; (try simp only [World.size_drew, World.cell?_drew, World.size_alloc, World.size_setCell] at hs'); go_simp; (try rfl); done)); try simp only [Act.put, List.setIfInBounds_toArray, List.set_cons_zero, List.set_cons_succ])
          | (apply wpO_skip (by decide) rfl rfl; try simp only [Act.put, List.setIfInBounds_toArray, List.set_cons_zero, List.set_cons_succ]))
        refine wpO_loudE rfl fun K hK => ?_
        go_simp
        refine hK _ _ ⟨by (repeat (first | exact Fr.refl _ _ | assumption | refine Fr.drew ?_ | refine Fr.alloc ?_ _ | refine Fr.drewL ?_)), ?_⟩
        clear hK K
        repeat (first
          | (apply wpO_pure rfl rfl; (focus (intro w'; go_simp; (try rfl); done)); try simp only [Act.put, List.setIfInBounds_toArray, List.set_cons_zero, List.set_cons_succ])
          | (apply wpO_read rfl rfl; (focus (intro w' hf' hs'; (try simp only [World.size_drew, World.cell?_drew, World.size_alloc, World.size_setCell] at hs'); go_simp; (try rfl); done)); try simp only [Act.put, List.setIfInBounds_toArray, List.set_cons_zero, List.set_cons_succ])
          | (apply wpO_skip (by decide) rfl rfl; try simp only [Act.put, List.setIfInBounds_toArray, List.set_cons_zero, List.set_cons_succ]))
        have O3 := own_fr0 HO2.out (((Fr.refl No w2).alloc (Obj.cells (HeldS.vals y).toArray 125)).drew)
        refine wpO_loud rfl fun K hK => ?_
        refine step_append_owned (by rfl) (.tmp 51) (.tmp 53) 65 (by rfl) (w.heap.size + 1) 125 iT zT 4 iT.bytes Try.underlying65 hiT hzT hsT rfl hzs (by omega) (.slice A xs.length cA) xs.length (xs.flatMap HeldS.vals) (by rfl) O3 (some ⟨w2.heap.size, 0, none⟩) 1 1 125 (HeldS.vals y) (by rfl) (Sl.of_new w2 125 4 1 (HeldS.vals y).toArray (HeldS.vals y) rfl rfl).drew (List.all_eq_true.1 (by rfl)) (by have := HXL.out; simp only [maxLen]; omega) (by
          have := HXL.out
          have h1 : (xs.length + 1) * iT.bytes ≤ 4097 * 100 := Nat.mul_le_mul (by omega) hbT
          omega) (by have := HF2'.out.size; have := HPB.out; have := HNL.out.lt; have := HF2.out.size; have := HNB.out; simp only [World.size_drew, World.size_alloc] at *; omega) ?_
        intro v2 w3 ho3 hg3 hat3
        refine hK _ _ ?_
        clear hK K
        try simp only [Act.put, List.setIfInBounds_toArray, List.set_cons_zero, List.set_cons_succ]
        have B3 := Blk.grown (HB2.out.alloc (Obj.cells (HeldS.vals y).toArray 125)).drew hg3 (fun k hk => own_far O3 (HB2.out.alloc (Obj.cells (HeldS.vals y).toArray 125)).drew htb k hk)
        have N3 := Blk.grown (HN2.out.alloc (Obj.cells (HeldS.vals y).toArray 125)).drew hg3 (fun k hk => by have := (own_size O3 k hk).1; have := HNB.out; omega)
        have P2 := HP2.out.fr0 ((Fr.refl No w2).alloc (Obj.cells (HeldS.vals y).toArray 125)).drew
        obtain ⟨pc, hpc⟩ := P2.blk
        have P3 : PipeR w3 p base s2 := P2.fr (Fr.of_grown hg3) (fun hk => own_far O3 hpc (by decide) p hk.symm rfl) (fun k hk => by have := (own_size O3 k hk.symm).1; have := HPB.out; have := HNB.out; omega)
        have G3 : Fr2 p b w w3 := Fr.grown (S := fun i => i = p ∨ i = b) (HF2'.out.alloc (Obj.cells (HeldS.vals y).toArray 125)).drew hg3 (fun k hk => .inr (by have := (own_size O3 k hk).1; omega))
        obtain ⟨A3, cA3, rfl, _⟩ := own_shape ho3
        have ho3' : w3.ownsRow (w.heap.size + 1) 125 4 (.slice A3 (xs.length + 1) cA3) (xs ++ [y]).length ((xs ++ [y]).flatMap HeldS.vals) := by rw [HYL.out, ← HYF.out]; exact ho3
        have q0 := B3.cell o
        have q1 := B3.lt
        have q2 := B3.frozens
        rw [List.getElem?_set_self HOL.out] at q0
        have HO3 := Lib.hid ho3'
        have HB3 := Lib.hid B3
        have HN3 := Lib.hid N3
        have HP3 := Lib.hid P3
        have HG3 := Lib.hid G3
        clear ho3 ho3' hg3 hat3 B3 N3 P2 pc hpc P3 G3 O3 HO2 HB2 HN2 HP2 HF2' HYF m0 m1
        repeat (first
          | (apply wpO_pure rfl rfl; (focus (intro w'; go_simp; (try rfl); done)); try simp only [Act.put, List.setIfInBounds_toArray, List.set_cons_zero, List.set_cons_succ])
          | (apply wpO_read rfl rfl; (focus (intro w' hf' hs'; (try simp only [World.size_drew, World.cell?_drew, World.size_alloc, World.size_setCell] at hs'); go_simp; (try rfl); done)); try simp only [Act.put, List.setIfInBounds_toArray, List.set_cons_zero, List.set_cons_succ])
          | (apply wpO_skip (by decide) rfl rfl; try simp only [Act.put, List.setIfInBounds_toArray, List.set_cons_zero, List.set_cons_succ]))
        refine wpO_loud rfl fun K hK => ?_
        go_simp
        refine hK _ _ ?_
        clear hK K
        repeat (first
          | (apply wpO_pure rfl rfl; (focus (intro w'; go_simp; (try rfl); done)); try simp only [Act.put, List.setIfInBounds_toArray, List.set_cons_zero, List.set_cons_succ])
          | (apply wpO_read rfl rfl; (focus (intro w' hf' hs'; (try simp only [World.size_drew, World.cell?_drew, World.size_alloc, World.size_setCell] at hs'); go_simp; (try rfl); done)); try simp only [Act.put, List.setIfInBounds_toArray, List.set_cons_zero, List.set_cons_succ])
          | (apply wpO_skip (by decide) rfl rfl; try simp only [Act.put, List.setIfInBounds_toArray, List.set_cons_zero, List.set_cons_succ]))
        refine wpO_nil ?_
        go_wp2
        go_roundg (N - (i + 1))
        case measure => omega
        case rel =>
          have hpx := (HB3.out.set_ o (.slice A3 (xs.length + 1) cA3))
          rw [List.set_set] at hpx
          refine ⟨i + 1, _, s2, xs ++ [y], by omega, by go_num, HP3.out.fr (S := fun i => i = b) ((Fr.refl (fun i => i = b) w3).setCell (p := ⟨b, o, none⟩) (.inl rfl) (.slice A3 (xs.length + 1) cA3)) (fun e => hbp e.symm) (fun k hk => hk ▸ hb), hpx, HN3.out.far (p := ⟨b, o, none⟩) (fun e => hbn e.symm) _, own_fr HO3.out ((Fr.refl (fun i => i = b) w3).setCell (p := ⟨b, o, none⟩) (.inl rfl) _) (fun k hk hS => own_far HO3.out HB3.out htb k hk hS), by have := HYL.out; have := HXL.out; omega, ?_, fun _ => ⟨rfl, hN⟩, Fr.setCell HG3.out (p := ⟨b, o, none⟩) (.inl (.inr rfl)) _⟩
          rw [Nat.sub_sub] at HFX
          exact HFX.out
      · have hlt1 : ¬ (i : Int) < (N : Int) := by omega
        have hFx := HFO.out
        rw [show N - i = 0 by omega, foldR_zero] at hFx
        have HFX := Lib.hid hFx
        clear hFx
        go_wp2
        refine bodyPost_end (v := .tuple #[]) (by simp [results, Try.results105, go_sem]) rfl ⟨⟨_, rfl⟩, ?_, ?_, HFR.out⟩
        · rw [← HFX.out]; exact HP.out
        · rw [← HFX.out]; exact ⟨v, HBL.out, own_mono HO.out (Nat.le_succ _)⟩
    · have hFx := HFO.out
      rw [foldR_bad] at hFx
      have HFX := Lib.hid hFx
      clear hFx
      by_cases hlt : (i : Int) < n2
      · go_wp2
        refine bodyPost_end (v := .tuple #[]) (by simp [results, Try.results105, go_sem]) rfl ⟨⟨_, rfl⟩, ?_, ?_, HFR.out⟩
        · rw [← HFX.out]; exact HP.out
        · rw [← HFX.out]; exact ⟨v, HBL.out, own_mono HO.out (Nat.le_succ _)⟩
      · go_wp2
        refine bodyPost_end (v := .tuple #[]) (by simp [results, Try.results105, go_sem]) rfl ⟨⟨_, rfl⟩, ?_, ?_, HFR.out⟩
        · rw [← HFX.out]; exact HP.out
        · rw [← HFX.out]; exact ⟨v, HBL.out, own_mono HO.out (Nat.le_succ _)⟩
end Go.Proofs.Ytegogggemmcgdaa

/- codec: the parts, read. -/
namespace Go.Proofs.Ytegogggemmcgdaa
open Go Go.RowKit Go.Proofs

/-- many steps of reading, in a row -/
def jobS (s : RS) : RS × JSt :=
  let a := numS s 0
  let b := numS a.1 0
  let c := numS b.1 0
  let d := numS c.1 0
  let e := truthS d.1 false
  let f := truthS e.1 false
  let g := numS f.1 0
  let h := numS g.1 0
  let i := numS h.1 0
  let j := numS i.1 0
  (j.1, ⟨a.2, b.2, c.2, d.2, e.2, f.2, g.2, h.2, i.2, j.2⟩)
def condS (s : RS) : RS × CondS :=
  let a := textS s ⟨#[]⟩ 255
  let b := numS a.1 0
  (b.1, ⟨a.2, b.2⟩)
def resS (s : RS) : RS × ResS :=
  let a := textS s ⟨#[]⟩ 255
  let b := numS a.1 0
  let c := truthS b.1 false
  (c.1, ⟨a.2, b.2, c.2⟩)
def heldS (s : RS) : RS × HeldS :=
  let a := numS s 0
  let b := textS a.1 ⟨#[]⟩ 255
  let c := numS b.1 0
  let d := numS c.1 0
  (d.1, ⟨a.2, b.2, c.2, d.2⟩)
theorem at4 {cs : List Value} {a b c d : Nat} {na nb nc nd : Int} (h0 : cs[a]? = some (.int .i64 na)) (h1 : cs[b]? = some (.int .i64 nb)) (h2 : cs[c]? = some (.int .i64 nc)) (h3 : cs[d]? = some (.int .i64 nd)) :
    ∀ (i o : Nat) (n : Int), [a, b, c, d][i]? = some o → [na, nb, nc, nd][i]? = some n → cs[o]? = some (.int .i64 n) := by
  intro i o n hq hn
  match i, hq, hn with
  | 0, hq, hn => simp only [List.getElem?_cons_zero, Option.some.injEq] at hq hn; subst hq hn; exact h0
  | 1, hq, hn => simp only [List.getElem?_cons_zero, List.getElem?_cons_succ, Option.some.injEq] at hq hn; subst hq hn; exact h1
  | 2, hq, hn => simp only [List.getElem?_cons_zero, List.getElem?_cons_succ, Option.some.injEq] at hq hn; subst hq hn; exact h2
  | 3, hq, hn => simp only [List.getElem?_cons_zero, List.getElem?_cons_succ, Option.some.injEq] at hq hn; subst hq hn; exact h3
  | k + 4, hq, _ => simp at hq
theorem at2 {cs : List Value} {a b : Nat} {na nb : Int} (h0 : cs[a]? = some (.int .i64 na)) (h1 : cs[b]? = some (.int .i64 nb)) :
    ∀ (i o : Nat) (n : Int), [a, b][i]? = some o → [na, nb][i]? = some n → cs[o]? = some (.int .i64 n) := by
  intro i o n hq hn
  match i, hq, hn with
  | 0, hq, hn => simp only [List.getElem?_cons_zero, Option.some.injEq] at hq hn; subst hq hn; exact h0
  | 1, hq, hn => simp only [List.getElem?_cons_zero, List.getElem?_cons_succ, Option.some.injEq] at hq hn; subst hq hn; exact h1
  | k + 2, hq, _ => simp at hq
theorem numsS_2 (s : RS) : numsS s [0, 0] = ((numS (numS s 0).1 0).1, [(numS s 0).2, (numS (numS s 0).1 0).2]) := rfl
theorem numsS_4 (s : RS) : numsS s [0, 0, 0, 0] = ((numS (numS (numS (numS s 0).1 0).1 0).1 0).1, [(numS s 0).2, (numS (numS s 0).1 0).2, (numS (numS (numS s 0).1 0).1 0).2, (numS (numS (numS (numS s 0).1 0).1 0).1 0).2]) := rfl
set_option maxRecDepth 100000 in
set_option maxHeartbeats 2000000 in
theorem intOf_partR (p base : Nat) (hp : base ≤ p) : PartR 98 3 (fun x => [Value.int .i64 x]) 0 (fun s => numS s 0) p base := by
  intro w l xb h hb hB
  have H := Lib.hid h
  have HB := Lib.hid hB
  have hxp := h.ne hB (by decide)
  have HF : Hid (Fr2 p xb w w) := Lib.hid (Fr.refl _ w)
  clear h hB
  go_enter Try.func98, Try.ntmps98
  go_wp2_with (first
    | (go_at_call 94; refine (numR_int p base xb 0 (false, l) _ _ _ _ H.out hp hb HB.out rfl hxp).mono ?_; rintro e w1 ⟨⟨u_w1, rfl⟩, hp_a, hb_a, hf_a⟩; obtain ⟨a, h_a⟩ : ∃ x, x = numS (false, l) 0 := ⟨_, rfl⟩; rw [← h_a] at hp_a hb_a; (try simp only [List.set_cons_zero, List.set_cons_succ] at hb_a); have HP_a := Lib.hid hp_a; have HB_a := Lib.hid hb_a; have HF_a := Lib.hid (Fr2.trans HF.out hf_a); have HE_a := Lib.hid h_a; clear hp_a hb_a hf_a h_a))
  refine bodyPost_end (v := .tuple #[]) (by simp [results, Try.results98, go_sem]) rfl ⟨⟨_, rfl⟩, ?_⟩
  have := HE_a.out
  subst this
  exact ⟨HP_a.out, HB_a.out, HF_a.out⟩
set_option maxRecDepth 100000 in
set_option maxHeartbeats 2000000 in
theorem condOf_partR (p base : Nat) (hp : base ≤ p) : PartR 102 131 CondS.vals CondS.zero condS p base := by
  intro w l xb h hb hB
  have H := Lib.hid h
  have HB := Lib.hid hB
  have hxp := h.ne hB (by decide)
  have HF : Hid (Fr2 p xb w w) := Lib.hid (Fr.refl _ w)
  clear h hB
  go_enter Try.func102, Try.ntmps102
  go_wp2_with (first
    | (go_at_call 110; refine (numR_i64 p base xb 1 a.1 _ _ _ _ HP_a.out hp hb HB_a.out rfl hxp).mono ?_; rintro e w2 ⟨⟨u_w2, rfl⟩, hp_b, hb_b, hf_b⟩; obtain ⟨b, h_b⟩ : ∃ x, x = numS a.1 0 := ⟨_, rfl⟩; rw [← h_b] at hp_b hb_b; (try simp only [List.set_cons_zero, List.set_cons_succ] at hb_b); have HP_b := Lib.hid hp_b; have HB_b := Lib.hid hb_b; have HF_b := Lib.hid (Fr2.trans HF_a.out hf_b); have HE_b := Lib.hid h_b; clear hp_b hb_b hf_b h_b)
    | (go_at_call 96; refine (textR_any p base xb 0 (false, l) _ _ _ 255 _ H.out hp hb HB.out rfl hxp).mono ?_; rintro e w1 ⟨⟨u_w1, rfl⟩, hp_a, hb_a, hf_a⟩; obtain ⟨a, h_a⟩ : ∃ x, x = textS (false, l) ⟨#[]⟩ 255 := ⟨_, rfl⟩; rw [← h_a] at hp_a hb_a; (try simp only [List.set_cons_zero, List.set_cons_succ] at hb_a); have HP_a := Lib.hid hp_a; have HB_a := Lib.hid hb_a; have HF_a := Lib.hid (Fr2.trans HF.out hf_a); have HE_a := Lib.hid h_a; clear hp_a hb_a hf_a h_a))
  refine bodyPost_end (v := .tuple #[]) (by simp [results, Try.results102, go_sem]) rfl ⟨⟨_, rfl⟩, ?_⟩
  have h1 := HE_a.out
  have h2 := HE_b.out
  subst h2
  subst h1
  exact ⟨HP_b.out, HB_b.out, HF_b.out⟩
set_option maxRecDepth 100000 in
set_option maxHeartbeats 2000000 in
theorem resOf_partR (p base : Nat) (hp : base ≤ p) : PartR 104 122 ResS.vals ResS.zero resS p base := by
  intro w l xb h hb hB
  have H := Lib.hid h
  have HB := Lib.hid hB
  have hxp := h.ne hB (by decide)
  have HF : Hid (Fr2 p xb w w) := Lib.hid (Fr.refl _ w)
  clear h hB
  go_enter Try.func104, Try.ntmps104
  go_wp2_with (first
    | (go_at_call 112; refine (truthR_any p base xb 2 b.1 _ _ _ _ HP_b.out hp hb HB_b.out rfl hxp).mono ?_; rintro e w3 ⟨⟨u_w3, rfl⟩, hp_c, hb_c, hf_c⟩; obtain ⟨c, h_c⟩ : ∃ x, x = truthS b.1 false := ⟨_, rfl⟩; rw [← h_c] at hp_c hb_c; (try simp only [List.set_cons_zero, List.set_cons_succ] at hb_c); have HP_c := Lib.hid hp_c; have HB_c := Lib.hid hb_c; have HF_c := Lib.hid (Fr2.trans HF_b.out hf_c); have HE_c := Lib.hid h_c; clear hp_c hb_c hf_c h_c)
    | (go_at_call 110; refine (numR_i64 p base xb 1 a.1 _ _ _ _ HP_a.out hp hb HB_a.out rfl hxp).mono ?_; rintro e w2 ⟨⟨u_w2, rfl⟩, hp_b, hb_b, hf_b⟩; obtain ⟨b, h_b⟩ : ∃ x, x = numS a.1 0 := ⟨_, rfl⟩; rw [← h_b] at hp_b hb_b; (try simp only [List.set_cons_zero, List.set_cons_succ] at hb_b); have HP_b := Lib.hid hp_b; have HB_b := Lib.hid hb_b; have HF_b := Lib.hid (Fr2.trans HF_a.out hf_b); have HE_b := Lib.hid h_b; clear hp_b hb_b hf_b h_b)
    | (go_at_call 96; refine (textR_any p base xb 0 (false, l) _ _ _ 255 _ H.out hp hb HB.out rfl hxp).mono ?_; rintro e w1 ⟨⟨u_w1, rfl⟩, hp_a, hb_a, hf_a⟩; obtain ⟨a, h_a⟩ : ∃ x, x = textS (false, l) ⟨#[]⟩ 255 := ⟨_, rfl⟩; rw [← h_a] at hp_a hb_a; (try simp only [List.set_cons_zero, List.set_cons_succ] at hb_a); have HP_a := Lib.hid hp_a; have HB_a := Lib.hid hb_a; have HF_a := Lib.hid (Fr2.trans HF.out hf_a); have HE_a := Lib.hid h_a; clear hp_a hb_a hf_a h_a))
  refine bodyPost_end (v := .tuple #[]) (by simp [results, Try.results104, go_sem]) rfl ⟨⟨_, rfl⟩, ?_⟩
  have h1 := HE_a.out
  have h2 := HE_b.out
  have h3 := HE_c.out
  subst h3
  subst h2
  subst h1
  exact ⟨HP_c.out, HB_c.out, HF_c.out⟩
set_option maxRecDepth 100000 in
set_option maxHeartbeats 2000000 in
theorem heldOf_partR (p base : Nat) (hp : base ≤ p) : PartR 106 125 HeldS.vals HeldS.zero heldS p base := by
  intro w l xb h hb hB
  have H := Lib.hid h
  have HB := Lib.hid hB
  have hxp := h.ne hB (by decide)
  have HF : Hid (Fr2 p xb w w) := Lib.hid (Fr.refl _ w)
  clear h hB
  go_enter Try.func106, Try.ntmps106
  go_wp2_with (first
    | (go_at_call 94; refine (numR_int p base xb 3 c.1 _ _ _ _ HP_c.out hp hb HB_c.out rfl hxp).mono ?_; rintro e w4 ⟨⟨u_w4, rfl⟩, hp_d, hb_d, hf_d⟩; obtain ⟨d, h_d⟩ : ∃ x, x = numS c.1 0 := ⟨_, rfl⟩; rw [← h_d] at hp_d hb_d; (try simp only [List.set_cons_zero, List.set_cons_succ] at hb_d); have HP_d := Lib.hid hp_d; have HB_d := Lib.hid hb_d; have HF_d := Lib.hid (Fr2.trans HF_c.out hf_d); have HE_d := Lib.hid h_d; clear hp_d hb_d hf_d h_d)
    | (go_at_call 110; refine (numR_i64 p base xb 2 b.1 _ _ _ _ HP_b.out hp hb HB_b.out rfl hxp).mono ?_; rintro e w3 ⟨⟨u_w3, rfl⟩, hp_c, hb_c, hf_c⟩; obtain ⟨c, h_c⟩ : ∃ x, x = numS b.1 0 := ⟨_, rfl⟩; rw [← h_c] at hp_c hb_c; (try simp only [List.set_cons_zero, List.set_cons_succ] at hb_c); have HP_c := Lib.hid hp_c; have HB_c := Lib.hid hb_c; have HF_c := Lib.hid (Fr2.trans HF_b.out hf_c); have HE_c := Lib.hid h_c; clear hp_c hb_c hf_c h_c)
    | (go_at_call 96; refine (textR_any p base xb 1 a.1 _ _ _ 255 _ HP_a.out hp hb HB_a.out rfl hxp).mono ?_; rintro e w2 ⟨⟨u_w2, rfl⟩, hp_b, hb_b, hf_b⟩; obtain ⟨b, h_b⟩ : ∃ x, x = textS a.1 ⟨#[]⟩ 255 := ⟨_, rfl⟩; rw [← h_b] at hp_b hb_b; (try simp only [List.set_cons_zero, List.set_cons_succ] at hb_b); have HP_b := Lib.hid hp_b; have HB_b := Lib.hid hb_b; have HF_b := Lib.hid (Fr2.trans HF_a.out hf_b); have HE_b := Lib.hid h_b; clear hp_b hb_b hf_b h_b)
    | (go_at_call 110; refine (numR_i64 p base xb 0 (false, l) _ _ _ _ H.out hp hb HB.out rfl hxp).mono ?_; rintro e w1 ⟨⟨u_w1, rfl⟩, hp_a, hb_a, hf_a⟩; obtain ⟨a, h_a⟩ : ∃ x, x = numS (false, l) 0 := ⟨_, rfl⟩; rw [← h_a] at hp_a hb_a; (try simp only [List.set_cons_zero, List.set_cons_succ] at hb_a); have HP_a := Lib.hid hp_a; have HB_a := Lib.hid hb_a; have HF_a := Lib.hid (Fr2.trans HF.out hf_a); have HE_a := Lib.hid h_a; clear hp_a hb_a hf_a h_a))
  refine bodyPost_end (v := .tuple #[]) (by simp [results, Try.results106, go_sem]) rfl ⟨⟨_, rfl⟩, ?_⟩
  have h1 := HE_a.out
  have h2 := HE_b.out
  have h3 := HE_c.out
  have h4 := HE_d.out
  subst h4
  subst h3
  subst h2
  subst h1
  exact ⟨HP_d.out, HB_d.out, HF_d.out⟩
set_option maxRecDepth 100000 in
set_option maxHeartbeats 2000000 in
theorem jobOf_partR (p base : Nat) (hp : base ≤ p) : PartR 100 119 JSt.vals JSt.zero jobS p base := by
  intro w l xb h hb hB
  have H := Lib.hid h
  have HB := Lib.hid hB
  have hxp := h.ne hB (by decide)
  have HF : Hid (Fr2 p xb w w) := Lib.hid (Fr.refl _ w)
  clear h hB
  go_enter Try.func100, Try.ntmps100
  go_wp2_with (first
    | (go_at_call 112; refine (truthR_any p base xb 5 e.1 _ _ _ _ HP_e.out hp hb HB_e.out rfl hxp).mono ?_; rintro e w6 ⟨⟨u_w6, rfl⟩, hp_f, hb_f, hf_f⟩; obtain ⟨f, h_f⟩ : ∃ x, x = truthS e.1 false := ⟨_, rfl⟩; rw [← h_f] at hp_f hb_f; (try simp only [List.set_cons_zero, List.set_cons_succ] at hb_f); have HP_f := Lib.hid hp_f; have HB_f := Lib.hid hb_f; have HF_f := Lib.hid (Fr2.trans HF_e.out hf_f); have HE_f := Lib.hid h_f; clear hp_f hb_f hf_f h_f)
    | (go_at_call 112; refine (truthR_any p base xb 4 d.1 _ _ _ _ HP_d.out hp hb HB_d.out rfl hxp).mono ?_; rintro e w5 ⟨⟨u_w5, rfl⟩, hp_e, hb_e, hf_e⟩; obtain ⟨e, h_e⟩ : ∃ x, x = truthS d.1 false := ⟨_, rfl⟩; rw [← h_e] at hp_e hb_e; (try simp only [List.set_cons_zero, List.set_cons_succ] at hb_e); have HP_e := Lib.hid hp_e; have HB_e := Lib.hid hb_e; have HF_e := Lib.hid (Fr2.trans HF_d.out hf_e); have HE_e := Lib.hid h_e; clear hp_e hb_e hf_e h_e)
    | (go_at_call 94; refine (numR_int p base xb 3 c.1 _ _ _ _ HP_c.out hp hb HB_c.out rfl hxp).mono ?_; rintro e w4 ⟨⟨u_w4, rfl⟩, hp_d, hb_d, hf_d⟩; obtain ⟨d, h_d⟩ : ∃ x, x = numS c.1 0 := ⟨_, rfl⟩; rw [← h_d] at hp_d hb_d; (try simp only [List.set_cons_zero, List.set_cons_succ] at hb_d); have HP_d := Lib.hid hp_d; have HB_d := Lib.hid hb_d; have HF_d := Lib.hid (Fr2.trans HF_c.out hf_d); have HE_d := Lib.hid h_d; clear hp_d hb_d hf_d h_d)
    | (go_at_call 110; refine (numR_i64 p base xb 2 b.1 _ _ _ _ HP_b.out hp hb HB_b.out rfl hxp).mono ?_; rintro e w3 ⟨⟨u_w3, rfl⟩, hp_c, hb_c, hf_c⟩; obtain ⟨c, h_c⟩ : ∃ x, x = numS b.1 0 := ⟨_, rfl⟩; rw [← h_c] at hp_c hb_c; (try simp only [List.set_cons_zero, List.set_cons_succ] at hb_c); have HP_c := Lib.hid hp_c; have HB_c := Lib.hid hb_c; have HF_c := Lib.hid (Fr2.trans HF_b.out hf_c); have HE_c := Lib.hid h_c; clear hp_c hb_c hf_c h_c)
    | (go_at_call 94; refine (numR_int p base xb 1 a.1 _ _ _ _ HP_a.out hp hb HB_a.out rfl hxp).mono ?_; rintro e w2 ⟨⟨u_w2, rfl⟩, hp_b, hb_b, hf_b⟩; obtain ⟨b, h_b⟩ : ∃ x, x = numS a.1 0 := ⟨_, rfl⟩; rw [← h_b] at hp_b hb_b; (try simp only [List.set_cons_zero, List.set_cons_succ] at hb_b); have HP_b := Lib.hid hp_b; have HB_b := Lib.hid hb_b; have HF_b := Lib.hid (Fr2.trans HF_a.out hf_b); have HE_b := Lib.hid h_b; clear hp_b hb_b hf_b h_b)
    | (go_at_call 110; refine (numR_i64 p base xb 0 (false, l) _ _ _ _ H.out hp hb HB.out rfl hxp).mono ?_; rintro e w1 ⟨⟨u_w1, rfl⟩, hp_a, hb_a, hf_a⟩; obtain ⟨a, h_a⟩ : ∃ x, x = numS (false, l) 0 := ⟨_, rfl⟩; rw [← h_a] at hp_a hb_a; (try simp only [List.set_cons_zero, List.set_cons_succ] at hb_a); have HP_a := Lib.hid hp_a; have HB_a := Lib.hid hb_a; have HF_a := Lib.hid (Fr2.trans HF.out hf_a); have HE_a := Lib.hid h_a; clear hp_a hb_a hf_a h_a))
  refine wp_region_o [(0, 0), (1, 0), (2, 0), (3, 0), (4, 0), (5, 0), (6, 0), (7, 0), (8, 0), (9, 0), (10, 0), (11, 0), (12, 0), (13, 2), (14, 3)] (by kernel_rfl) (by kernel_rfl) ?_
  repeat (first
    | (apply wpO_pure rfl rfl; (focus (intro w'; go_simp; (try rfl); done)); try simp only [Act.put, List.setIfInBounds_toArray, List.set_cons_zero, List.set_cons_succ])
    | (apply wpO_read rfl rfl; (focus (intro w' hf' hs'; (try simp only [World.size_drew, World.cell?_drew, World.size_alloc, World.size_setCell] at hs'); go_simp; (try rfl); done)); try simp only [Act.put, List.setIfInBounds_toArray, List.set_cons_zero, List.set_cons_succ])
    | (apply wpO_skip (by decide) rfl rfl; try simp only [Act.put, List.setIfInBounds_toArray, List.set_cons_zero, List.set_cons_succ]))
  refine wpO_loudE rfl fun K hK => ?_
  go_simp
  refine hK _ _ ⟨by (repeat (first | exact Fr.refl _ _ | assumption | refine Fr.drew ?_ | refine Fr.alloc ?_ _ | refine Fr.drewL ?_)), ?_⟩
  clear hK K
  repeat (first
    | (apply wpO_pure rfl rfl; (focus (intro w'; go_simp; (try rfl); done)); try simp only [Act.put, List.setIfInBounds_toArray, List.set_cons_zero, List.set_cons_succ])
    | (apply wpO_read rfl rfl; (focus (intro w' hf' hs'; (try simp only [World.size_drew, World.cell?_drew, World.size_alloc, World.size_setCell] at hs'); go_simp; (try rfl); done)); try simp only [Act.put, List.setIfInBounds_toArray, List.set_cons_zero, List.set_cons_succ])
    | (apply wpO_skip (by decide) rfl rfl; try simp only [Act.put, List.setIfInBounds_toArray, List.set_cons_zero, List.set_cons_succ]))
  have F7 := ((Fr.refl No w6).alloc (Obj.cells ([6, 7, 8, 9].map fun o => ptrV (xb, o)).toArray 160)).drew
  have G7 := (Blk.new w6 160 ([6, 7, 8, 9].map fun o => ptrV (xb, o))).drew
  have S7 := HB_f.out.fr F7 (fun h => h)
  have hgp : w6.heap.size ≠ p := by have := (PipeR.cells HP_f.out).2.2.1; omega
  have hgx : w6.heap.size ≠ xb := by have := HB_f.out.lt; omega
  refine wpO_loud rfl fun K hK => ?_
  go_simp
  refine (numsR_any p base xb w6.heap.size 4 f.1 _ _ _ [6, 7, 8, 9] [0, 0, 0, 0] _ (HP_f.out.fr0 F7) hp hb S7 hxp G7 hgp hgx rfl (by decide) (at4 rfl rfl rfl rfl) (by decide)).mono ?_
  rintro e w8 ⟨⟨u8, rfl⟩, hp8, hb8, hf8⟩
  refine hK _ _ ?_
  clear hK K
  rw [numsS_4] at hp8 hb8
  simp only [setAll, List.set_cons_zero, List.set_cons_succ] at hb8
  have HP8 := Lib.hid hp8
  have HB8 := Lib.hid hb8
  have HF8 := Lib.hid (Fr2.trans HF_f.out (Fr2.trans (F7.any _) hf8))
  clear hp8 hb8 hf8 F7 G7 S7
  repeat (first
    | (apply wpO_pure rfl rfl; (focus (intro w'; go_simp; (try rfl); done)); try simp only [Act.put, List.setIfInBounds_toArray, List.set_cons_zero, List.set_cons_succ])
    | (apply wpO_read rfl rfl; (focus (intro w' hf' hs'; (try simp only [World.size_drew, World.cell?_drew, World.size_alloc, World.size_setCell] at hs'); go_simp; (try rfl); done)); try simp only [Act.put, List.setIfInBounds_toArray, List.set_cons_zero, List.set_cons_succ])
    | (apply wpO_skip (by decide) rfl rfl; try simp only [Act.put, List.setIfInBounds_toArray, List.set_cons_zero, List.set_cons_succ]))
  refine wpO_nil ?_
  go_wp2
  refine bodyPost_end (v := .tuple #[]) (by simp [results, Try.results100, go_sem]) rfl ⟨⟨_, rfl⟩, ?_⟩
  have h1 := HE_a.out
  have h2 := HE_b.out
  have h3 := HE_c.out
  have h4 := HE_d.out
  have h5 := HE_e.out
  have h6 := HE_f.out
  subst h6
  subst h5
  subst h4
  subst h3
  subst h2
  subst h1
  exact ⟨HP8.out, HB8.out, HF8.out⟩
end Go.Proofs.Ytegogggemmcgdaa

/- codec: lists of parts, written. -/
namespace Go.Proofs.Ytegogggemmcgdaa
open Go Go.RowKit Go.Proofs

set_option maxRecDepth 100000 in
set_option maxHeartbeats 4000000 in
theorem listW_job (bytes : JSt → Bs) (pbad : JSt → Bool) (p base : Nat) (v : Value) (l : Bs) (bad : Bool) (b o : Nat) (t : TypeId) (cs : List Value) (A : Option Addr) (c : Nat) (et : TypeId) (xs : List (JSt)) (most : Nat) (w : World)
    (h : PipeW w p base v l bad) (hB : Src w b t cs) (hc : cs[o]? = some (.slice A xs.length c)) (hS : ∀ w', FrP p base w w' → Sl w' et 10 A xs.length (xs.flatMap JSt.vals)) (hm : xs.length ≤ maxLen) (hmost : most ≤ 4096)
    (hpart : ∀ x ∈ xs, PartW 100 119 JSt.vals bytes pbad p base x) (hsm : ∀ x ∈ xs, pbad x = false → (bytes x).length ≤ 400) (hl : l.length ≤ 149000000000000) (hl2 : bad = false → l.length ≤ 900000000) :
    Calls Try.prog 99 #[.pointer (some ⟨p, 0, none⟩), .pointer (some ⟨b, o, none⟩), .int .i64 most, .func (.func 100) #[] #[]] w fun e w' => (∃ u, e = .returned u) ∧ ∃ v', PipeW w' p base v' (listW bytes pbad xs most l bad).1 (listW bytes pbad xs most l bad).2 ∧ FrP p base w w' := by
  have n0 := (hB.blk.cell o).trans hc
  have n1 := hB.blk.lt
  have H := Lib.hid h
  have HB := Lib.hid hB
  have HC := Lib.hid hc
  have HS := Lib.hid hS
  have HM := Lib.hid hmost
  have HPT := Lib.hid hpart
  have HSM := Lib.hid hsm
  have HL := Lib.hid hl
  have HL2 := Lib.hid hl2
  have hx0 : (0 : Int) ≤ (xs.length : Int) := by omega
  have hx1 : (xs.length : Int) ≤ 9223372036854775807 := by simp only [maxLen] at hm; omega
  have HN := Lib.hid (Src.mk (Blk.new w 3 [.int .i64 xs.length]) (by decide) (by decide))
  have HF := Lib.hid ((Fr.refl No w).alloc (Obj.cells #[.int .i64 xs.length] 3))
  have HE := Lib.hid (manyBad_len bad xs.length most)
  obtain ⟨F, hF⟩ : ∃ F, F = listW bytes pbad xs most l bad := ⟨_, rfl⟩
  rw [← hF]
  have HFF := Lib.hid hF
  clear h hB hc hS hm hmost hpart hsm hl hl2 hF
  obtain ⟨nb, hnb⟩ : ∃ nb, nb = w.heap.size := ⟨_, rfl⟩
  rw [← hnb] at HN
  have HNB := Lib.hid hnb
  clear hnb
  go_enter Try.func99, Try.ntmps99
  go_wp2_with (first
    | (rw [← HNB.out]; go_at_call 111; refine (manyW_any p base v l bad nb 0 3 _ xs.length most _ (H.out.fr0 HF.out) HN.out rfl (by have := HL.out; omega)).mono ?_; rintro e w1 ⟨⟨u1, rfl⟩, v1, hp1, hf1⟩; rw [HE.out] at hp1; have HP1 := Lib.hid hp1; have HF1 := Lib.hid ((FrP.no HF.out).trans hf1); have HN1 := Lib.hid (HN.out.frp (H.out.fr0 HF.out) hf1); clear hp1 hf1 n0 n1))
  have hF0 := HFF.out
  rw [listW] at hF0
  have HF0 := Lib.hid hF0
  have HBD := Lib.hid (show (bad || decide (most < xs.length)) = false → bad = false ∧ xs.length ≤ most by simp)
  obtain ⟨bd0, hbd0⟩ : ∃ bd0, bd0 = (bad || decide (most < xs.length)) := ⟨_, rfl⟩
  rw [← hbd0] at HP1 HF0 HBD
  obtain ⟨l1, hl1⟩ : ∃ l1, l1 = l ++ leB (u64N xs.length) 8 := ⟨_, rfl⟩
  rw [← hl1] at HP1 HF0
  have HL1 := Lib.hid (show l1.length = l.length + 8 by rw [hl1, List.length_append, leB_length])
  clear hF0 hbd0 hl1 HFF HE
  go_loopg [9] xs.length (fun g v9 wr => LWRel bytes pbad w1 p base xs F bd0 (l.length + 8) g v9 wr)
  case atStart => exact ⟨0, v1, l1, bd0, by omega, rfl, HP1.out, by rw [List.drop_zero]; exact HF0.out.symm, fun hz => ⟨hz, by have := HL1.out; omega⟩, FrP.refl _ _ _⟩
  case round =>
    obtain ⟨i, u, li, bi, hgi, rfl, hp, hfo, hle, hf⟩ := hrel
    have HP := Lib.hid hp
    have HFO := Lib.hid hfo
    have HLE := Lib.hid hle
    have HFR := Lib.hid hf
    have hi0 : (0 : Int) ≤ (i : Int) := by omega
    have c0 := hp.blk.cell 0
    have c1 := hp.blk.cell 1
    have c2 := hp.blk.cell 2
    have c4 := hp.blk.lt
    simp only [List.getElem?_cons_zero, List.getElem?_cons_succ] at c0 c1 c2
    have N1 := (HN1.out.frp HP1.out hf).blk
    have e0 := N1.cell 0
    have e1 := N1.lt
    simp only [List.getElem?_cons_zero] at e0
    have B1 := ((HB.out.frp H.out HF1.out).frp HP1.out hf).blk
    have n0 := (B1.cell o).trans HC.out
    have n1 := B1.lt
    clear hp hfo hle hf N1 B1
    by_cases hi : i < xs.length
    · have hi1 : (i : Int) < (xs.length : Int) := by omega
      cases bi
      · obtain ⟨x, hx⟩ : ∃ x, xs[i]? = some x := ⟨_, List.getElem?_eq_getElem hi⟩
        obtain ⟨g, oo, rfl, hg1, ⟨k0, k1, k2, k3, k4, k5, k6, k7, k8, k9⟩⟩ := job_at (HS.out _ (HF1.out.trans HFR.out)) hx
        have HX := Lib.hid hx
        clear hx
        have HBL := Lib.hid (show li.length ≤ 1000000000 by
          obtain ⟨hz, hbl⟩ := HLE.out (by first | exact rfl | trivial)
          have h3 := HBD.out hz
          have := HL2.out h3.1
          have := HM.out
          omega)
        go_wp2_with (first
          | (go_at_call 100; refine (HPT.out x (List.mem_of_getElem? HX.out) _ u li wr.heap.size (HP.out.fr0 ((Fr.refl No wr).alloc (Obj.cells (JSt.vals x).toArray 119))) (Blk.new wr 119 (JSt.vals x)) HBL.out).mono ?_; rintro e w2 ⟨⟨u2, rfl⟩, v2, hp2, hf2⟩; have HP2 := Lib.hid hp2; have HF2 := Lib.hid ((FrP.no (p := p) (base := base) ((Fr.refl No wr).alloc (Obj.cells (JSt.vals x).toArray 119))).trans hf2); have d1 := hp2.blk.cell 1; have d4 := hp2.blk.lt; simp only [List.getElem?_cons_zero, List.getElem?_cons_succ] at d1; clear hp2 hf2))
        go_roundg (xs.length - (i + 1))
        case measure => omega
        case rel =>
          refine ⟨i + 1, v2, _, _, by omega, by go_num, HP2.out, ?_, fun hz => ?_, HFR.out.trans HF2.out⟩
          · rw [← foldW_drop bytes pbad HX.out]; exact HFO.out
          · obtain ⟨hz0, hbl⟩ := HLE.out (by first | exact rfl | trivial)
            have := HSM.out x (List.mem_of_getElem? HX.out) hz
            refine ⟨hz0, ?_⟩
            rw [List.length_append]
            omega
      · have hFx := HFO.out
        rw [foldW_bad] at hFx
        have HFX := Lib.hid hFx
        clear hFx
        go_wp2
        refine bodyPost_end (v := .tuple #[]) (by simp [results, Try.results99, go_sem]) rfl ⟨⟨_, rfl⟩, u, ?_, HF1.out.trans HFR.out⟩
        rw [← HFX.out]
        exact HP.out
    · have hi1 : (xs.length : Int) ≤ (i : Int) := by omega
      obtain rfl : i = xs.length := by omega
      have hFx := HFO.out
      rw [List.drop_length, foldW_nil] at hFx
      have HFX := Lib.hid hFx
      clear hFx
      go_wp2
      refine bodyPost_end (v := .tuple #[]) (by simp [results, Try.results99, go_sem]) rfl ⟨⟨_, rfl⟩, u, ?_, HF1.out.trans HFR.out⟩
      rw [← HFX.out]
      exact HP.out
set_option maxRecDepth 100000 in
set_option maxHeartbeats 4000000 in
theorem listW_cond (bytes : CondS → Bs) (pbad : CondS → Bool) (p base : Nat) (v : Value) (l : Bs) (bad : Bool) (b o : Nat) (t : TypeId) (cs : List Value) (A : Option Addr) (c : Nat) (et : TypeId) (xs : List (CondS)) (most : Nat) (w : World)
    (h : PipeW w p base v l bad) (hB : Src w b t cs) (hc : cs[o]? = some (.slice A xs.length c)) (hS : ∀ w', FrP p base w w' → Sl w' et 2 A xs.length (xs.flatMap CondS.vals)) (hm : xs.length ≤ maxLen) (hmost : most ≤ 4096)
    (hpart : ∀ x ∈ xs, PartW 102 131 CondS.vals bytes pbad p base x) (hsm : ∀ x ∈ xs, pbad x = false → (bytes x).length ≤ 400) (hl : l.length ≤ 149000000000000) (hl2 : bad = false → l.length ≤ 900000000) :
    Calls Try.prog 101 #[.pointer (some ⟨p, 0, none⟩), .pointer (some ⟨b, o, none⟩), .int .i64 most, .func (.func 102) #[] #[]] w fun e w' => (∃ u, e = .returned u) ∧ ∃ v', PipeW w' p base v' (listW bytes pbad xs most l bad).1 (listW bytes pbad xs most l bad).2 ∧ FrP p base w w' := by
  have n0 := (hB.blk.cell o).trans hc
  have n1 := hB.blk.lt
  have H := Lib.hid h
  have HB := Lib.hid hB
  have HC := Lib.hid hc
  have HS := Lib.hid hS
  have HM := Lib.hid hmost
  have HPT := Lib.hid hpart
  have HSM := Lib.hid hsm
  have HL := Lib.hid hl
  have HL2 := Lib.hid hl2
  have hx0 : (0 : Int) ≤ (xs.length : Int) := by omega
  have hx1 : (xs.length : Int) ≤ 9223372036854775807 := by simp only [maxLen] at hm; omega
  have HN := Lib.hid (Src.mk (Blk.new w 3 [.int .i64 xs.length]) (by decide) (by decide))
  have HF := Lib.hid ((Fr.refl No w).alloc (Obj.cells #[.int .i64 xs.length] 3))
  have HE := Lib.hid (manyBad_len bad xs.length most)
  obtain ⟨F, hF⟩ : ∃ F, F = listW bytes pbad xs most l bad := ⟨_, rfl⟩
  rw [← hF]
  have HFF := Lib.hid hF
  clear h hB hc hS hm hmost hpart hsm hl hl2 hF
  obtain ⟨nb, hnb⟩ : ∃ nb, nb = w.heap.size := ⟨_, rfl⟩
  rw [← hnb] at HN
  have HNB := Lib.hid hnb
  clear hnb
  go_enter Try.func101, Try.ntmps101
  go_wp2_with (first
    | (rw [← HNB.out]; go_at_call 111; refine (manyW_any p base v l bad nb 0 3 _ xs.length most _ (H.out.fr0 HF.out) HN.out rfl (by have := HL.out; omega)).mono ?_; rintro e w1 ⟨⟨u1, rfl⟩, v1, hp1, hf1⟩; rw [HE.out] at hp1; have HP1 := Lib.hid hp1; have HF1 := Lib.hid ((FrP.no HF.out).trans hf1); have HN1 := Lib.hid (HN.out.frp (H.out.fr0 HF.out) hf1); clear hp1 hf1 n0 n1))
  have hF0 := HFF.out
  rw [listW] at hF0
  have HF0 := Lib.hid hF0
  have HBD := Lib.hid (show (bad || decide (most < xs.length)) = false → bad = false ∧ xs.length ≤ most by simp)
  obtain ⟨bd0, hbd0⟩ : ∃ bd0, bd0 = (bad || decide (most < xs.length)) := ⟨_, rfl⟩
  rw [← hbd0] at HP1 HF0 HBD
  obtain ⟨l1, hl1⟩ : ∃ l1, l1 = l ++ leB (u64N xs.length) 8 := ⟨_, rfl⟩
  rw [← hl1] at HP1 HF0
  have HL1 := Lib.hid (show l1.length = l.length + 8 by rw [hl1, List.length_append, leB_length])
  clear hF0 hbd0 hl1 HFF HE
  go_loopg [9] xs.length (fun g v9 wr => LWRel bytes pbad w1 p base xs F bd0 (l.length + 8) g v9 wr)
  case atStart => exact ⟨0, v1, l1, bd0, by omega, rfl, HP1.out, by rw [List.drop_zero]; exact HF0.out.symm, fun hz => ⟨hz, by have := HL1.out; omega⟩, FrP.refl _ _ _⟩
  case round =>
    obtain ⟨i, u, li, bi, hgi, rfl, hp, hfo, hle, hf⟩ := hrel
    have HP := Lib.hid hp
    have HFO := Lib.hid hfo
    have HLE := Lib.hid hle
    have HFR := Lib.hid hf
    have hi0 : (0 : Int) ≤ (i : Int) := by omega
    have c0 := hp.blk.cell 0
    have c1 := hp.blk.cell 1
    have c2 := hp.blk.cell 2
    have c4 := hp.blk.lt
    simp only [List.getElem?_cons_zero, List.getElem?_cons_succ] at c0 c1 c2
    have N1 := (HN1.out.frp HP1.out hf).blk
    have e0 := N1.cell 0
    have e1 := N1.lt
    simp only [List.getElem?_cons_zero] at e0
    have B1 := ((HB.out.frp H.out HF1.out).frp HP1.out hf).blk
    have n0 := (B1.cell o).trans HC.out
    have n1 := B1.lt
    clear hp hfo hle hf N1 B1
    by_cases hi : i < xs.length
    · have hi1 : (i : Int) < (xs.length : Int) := by omega
      cases bi
      · obtain ⟨x, hx⟩ : ∃ x, xs[i]? = some x := ⟨_, List.getElem?_eq_getElem hi⟩
        obtain ⟨g, oo, rfl, hg1, ⟨k0, k1⟩⟩ := cond_at (HS.out _ (HF1.out.trans HFR.out)) hx
        have HX := Lib.hid hx
        clear hx
        have HBL := Lib.hid (show li.length ≤ 1000000000 by
          obtain ⟨hz, hbl⟩ := HLE.out (by first | exact rfl | trivial)
          have h3 := HBD.out hz
          have := HL2.out h3.1
          have := HM.out
          omega)
        go_wp2_with (first
          | (go_at_call 102; refine (HPT.out x (List.mem_of_getElem? HX.out) _ u li wr.heap.size (HP.out.fr0 ((Fr.refl No wr).alloc (Obj.cells (CondS.vals x).toArray 131))) (Blk.new wr 131 (CondS.vals x)) HBL.out).mono ?_; rintro e w2 ⟨⟨u2, rfl⟩, v2, hp2, hf2⟩; have HP2 := Lib.hid hp2; have HF2 := Lib.hid ((FrP.no (p := p) (base := base) ((Fr.refl No wr).alloc (Obj.cells (CondS.vals x).toArray 131))).trans hf2); have d1 := hp2.blk.cell 1; have d4 := hp2.blk.lt; simp only [List.getElem?_cons_zero, List.getElem?_cons_succ] at d1; clear hp2 hf2))
        go_roundg (xs.length - (i + 1))
        case measure => omega
        case rel =>
          refine ⟨i + 1, v2, _, _, by omega, by go_num, HP2.out, ?_, fun hz => ?_, HFR.out.trans HF2.out⟩
          · rw [← foldW_drop bytes pbad HX.out]; exact HFO.out
          · obtain ⟨hz0, hbl⟩ := HLE.out (by first | exact rfl | trivial)
            have := HSM.out x (List.mem_of_getElem? HX.out) hz
            refine ⟨hz0, ?_⟩
            rw [List.length_append]
            omega
      · have hFx := HFO.out
        rw [foldW_bad] at hFx
        have HFX := Lib.hid hFx
        clear hFx
        go_wp2
        refine bodyPost_end (v := .tuple #[]) (by simp [results, Try.results101, go_sem]) rfl ⟨⟨_, rfl⟩, u, ?_, HF1.out.trans HFR.out⟩
        rw [← HFX.out]
        exact HP.out
    · have hi1 : (xs.length : Int) ≤ (i : Int) := by omega
      obtain rfl : i = xs.length := by omega
      have hFx := HFO.out
      rw [List.drop_length, foldW_nil] at hFx
      have HFX := Lib.hid hFx
      clear hFx
      go_wp2
      refine bodyPost_end (v := .tuple #[]) (by simp [results, Try.results101, go_sem]) rfl ⟨⟨_, rfl⟩, u, ?_, HF1.out.trans HFR.out⟩
      rw [← HFX.out]
      exact HP.out
set_option maxRecDepth 100000 in
set_option maxHeartbeats 4000000 in
theorem listW_res (bytes : ResS → Bs) (pbad : ResS → Bool) (p base : Nat) (v : Value) (l : Bs) (bad : Bool) (b o : Nat) (t : TypeId) (cs : List Value) (A : Option Addr) (c : Nat) (et : TypeId) (xs : List (ResS)) (most : Nat) (w : World)
    (h : PipeW w p base v l bad) (hB : Src w b t cs) (hc : cs[o]? = some (.slice A xs.length c)) (hS : ∀ w', FrP p base w w' → Sl w' et 3 A xs.length (xs.flatMap ResS.vals)) (hm : xs.length ≤ maxLen) (hmost : most ≤ 4096)
    (hpart : ∀ x ∈ xs, PartW 104 122 ResS.vals bytes pbad p base x) (hsm : ∀ x ∈ xs, pbad x = false → (bytes x).length ≤ 400) (hl : l.length ≤ 149000000000000) (hl2 : bad = false → l.length ≤ 900000000) :
    Calls Try.prog 103 #[.pointer (some ⟨p, 0, none⟩), .pointer (some ⟨b, o, none⟩), .int .i64 most, .func (.func 104) #[] #[]] w fun e w' => (∃ u, e = .returned u) ∧ ∃ v', PipeW w' p base v' (listW bytes pbad xs most l bad).1 (listW bytes pbad xs most l bad).2 ∧ FrP p base w w' := by
  have n0 := (hB.blk.cell o).trans hc
  have n1 := hB.blk.lt
  have H := Lib.hid h
  have HB := Lib.hid hB
  have HC := Lib.hid hc
  have HS := Lib.hid hS
  have HM := Lib.hid hmost
  have HPT := Lib.hid hpart
  have HSM := Lib.hid hsm
  have HL := Lib.hid hl
  have HL2 := Lib.hid hl2
  have hx0 : (0 : Int) ≤ (xs.length : Int) := by omega
  have hx1 : (xs.length : Int) ≤ 9223372036854775807 := by simp only [maxLen] at hm; omega
  have HN := Lib.hid (Src.mk (Blk.new w 3 [.int .i64 xs.length]) (by decide) (by decide))
  have HF := Lib.hid ((Fr.refl No w).alloc (Obj.cells #[.int .i64 xs.length] 3))
  have HE := Lib.hid (manyBad_len bad xs.length most)
  obtain ⟨F, hF⟩ : ∃ F, F = listW bytes pbad xs most l bad := ⟨_, rfl⟩
  rw [← hF]
  have HFF := Lib.hid hF
  clear h hB hc hS hm hmost hpart hsm hl hl2 hF
  obtain ⟨nb, hnb⟩ : ∃ nb, nb = w.heap.size := ⟨_, rfl⟩
  rw [← hnb] at HN
  have HNB := Lib.hid hnb
  clear hnb
  go_enter Try.func103, Try.ntmps103
  go_wp2_with (first
    | (rw [← HNB.out]; go_at_call 111; refine (manyW_any p base v l bad nb 0 3 _ xs.length most _ (H.out.fr0 HF.out) HN.out rfl (by have := HL.out; omega)).mono ?_; rintro e w1 ⟨⟨u1, rfl⟩, v1, hp1, hf1⟩; rw [HE.out] at hp1; have HP1 := Lib.hid hp1; have HF1 := Lib.hid ((FrP.no HF.out).trans hf1); have HN1 := Lib.hid (HN.out.frp (H.out.fr0 HF.out) hf1); clear hp1 hf1 n0 n1))
  have hF0 := HFF.out
  rw [listW] at hF0
  have HF0 := Lib.hid hF0
  have HBD := Lib.hid (show (bad || decide (most < xs.length)) = false → bad = false ∧ xs.length ≤ most by simp)
  obtain ⟨bd0, hbd0⟩ : ∃ bd0, bd0 = (bad || decide (most < xs.length)) := ⟨_, rfl⟩
  rw [← hbd0] at HP1 HF0 HBD
  obtain ⟨l1, hl1⟩ : ∃ l1, l1 = l ++ leB (u64N xs.length) 8 := ⟨_, rfl⟩
  rw [← hl1] at HP1 HF0
  have HL1 := Lib.hid (show l1.length = l.length + 8 by rw [hl1, List.length_append, leB_length])
  clear hF0 hbd0 hl1 HFF HE
  go_loopg [9] xs.length (fun g v9 wr => LWRel bytes pbad w1 p base xs F bd0 (l.length + 8) g v9 wr)
  case atStart => exact ⟨0, v1, l1, bd0, by omega, rfl, HP1.out, by rw [List.drop_zero]; exact HF0.out.symm, fun hz => ⟨hz, by have := HL1.out; omega⟩, FrP.refl _ _ _⟩
  case round =>
    obtain ⟨i, u, li, bi, hgi, rfl, hp, hfo, hle, hf⟩ := hrel
    have HP := Lib.hid hp
    have HFO := Lib.hid hfo
    have HLE := Lib.hid hle
    have HFR := Lib.hid hf
    have hi0 : (0 : Int) ≤ (i : Int) := by omega
    have c0 := hp.blk.cell 0
    have c1 := hp.blk.cell 1
    have c2 := hp.blk.cell 2
    have c4 := hp.blk.lt
    simp only [List.getElem?_cons_zero, List.getElem?_cons_succ] at c0 c1 c2
    have N1 := (HN1.out.frp HP1.out hf).blk
    have e0 := N1.cell 0
    have e1 := N1.lt
    simp only [List.getElem?_cons_zero] at e0
    have B1 := ((HB.out.frp H.out HF1.out).frp HP1.out hf).blk
    have n0 := (B1.cell o).trans HC.out
    have n1 := B1.lt
    clear hp hfo hle hf N1 B1
    by_cases hi : i < xs.length
    · have hi1 : (i : Int) < (xs.length : Int) := by omega
      cases bi
      · obtain ⟨x, hx⟩ : ∃ x, xs[i]? = some x := ⟨_, List.getElem?_eq_getElem hi⟩
        obtain ⟨g, oo, rfl, hg1, ⟨k0, k1, k2⟩⟩ := res_at (HS.out _ (HF1.out.trans HFR.out)) hx
        have HX := Lib.hid hx
        clear hx
        have HBL := Lib.hid (show li.length ≤ 1000000000 by
          obtain ⟨hz, hbl⟩ := HLE.out (by first | exact rfl | trivial)
          have h3 := HBD.out hz
          have := HL2.out h3.1
          have := HM.out
          omega)
        go_wp2_with (first
          | (go_at_call 104; refine (HPT.out x (List.mem_of_getElem? HX.out) _ u li wr.heap.size (HP.out.fr0 ((Fr.refl No wr).alloc (Obj.cells (ResS.vals x).toArray 122))) (Blk.new wr 122 (ResS.vals x)) HBL.out).mono ?_; rintro e w2 ⟨⟨u2, rfl⟩, v2, hp2, hf2⟩; have HP2 := Lib.hid hp2; have HF2 := Lib.hid ((FrP.no (p := p) (base := base) ((Fr.refl No wr).alloc (Obj.cells (ResS.vals x).toArray 122))).trans hf2); have d1 := hp2.blk.cell 1; have d4 := hp2.blk.lt; simp only [List.getElem?_cons_zero, List.getElem?_cons_succ] at d1; clear hp2 hf2))
        go_roundg (xs.length - (i + 1))
        case measure => omega
        case rel =>
          refine ⟨i + 1, v2, _, _, by omega, by go_num, HP2.out, ?_, fun hz => ?_, HFR.out.trans HF2.out⟩
          · rw [← foldW_drop bytes pbad HX.out]; exact HFO.out
          · obtain ⟨hz0, hbl⟩ := HLE.out (by first | exact rfl | trivial)
            have := HSM.out x (List.mem_of_getElem? HX.out) hz
            refine ⟨hz0, ?_⟩
            rw [List.length_append]
            omega
      · have hFx := HFO.out
        rw [foldW_bad] at hFx
        have HFX := Lib.hid hFx
        clear hFx
        go_wp2
        refine bodyPost_end (v := .tuple #[]) (by simp [results, Try.results103, go_sem]) rfl ⟨⟨_, rfl⟩, u, ?_, HF1.out.trans HFR.out⟩
        rw [← HFX.out]
        exact HP.out
    · have hi1 : (xs.length : Int) ≤ (i : Int) := by omega
      obtain rfl : i = xs.length := by omega
      have hFx := HFO.out
      rw [List.drop_length, foldW_nil] at hFx
      have HFX := Lib.hid hFx
      clear hFx
      go_wp2
      refine bodyPost_end (v := .tuple #[]) (by simp [results, Try.results103, go_sem]) rfl ⟨⟨_, rfl⟩, u, ?_, HF1.out.trans HFR.out⟩
      rw [← HFX.out]
      exact HP.out
set_option maxRecDepth 100000 in
set_option maxHeartbeats 4000000 in
theorem listW_held (bytes : HeldS → Bs) (pbad : HeldS → Bool) (p base : Nat) (v : Value) (l : Bs) (bad : Bool) (b o : Nat) (t : TypeId) (cs : List Value) (A : Option Addr) (c : Nat) (et : TypeId) (xs : List (HeldS)) (most : Nat) (w : World)
    (h : PipeW w p base v l bad) (hB : Src w b t cs) (hc : cs[o]? = some (.slice A xs.length c)) (hS : ∀ w', FrP p base w w' → Sl w' et 4 A xs.length (xs.flatMap HeldS.vals)) (hm : xs.length ≤ maxLen) (hmost : most ≤ 4096)
    (hpart : ∀ x ∈ xs, PartW 106 125 HeldS.vals bytes pbad p base x) (hsm : ∀ x ∈ xs, pbad x = false → (bytes x).length ≤ 400) (hl : l.length ≤ 149000000000000) (hl2 : bad = false → l.length ≤ 900000000) :
    Calls Try.prog 105 #[.pointer (some ⟨p, 0, none⟩), .pointer (some ⟨b, o, none⟩), .int .i64 most, .func (.func 106) #[] #[]] w fun e w' => (∃ u, e = .returned u) ∧ ∃ v', PipeW w' p base v' (listW bytes pbad xs most l bad).1 (listW bytes pbad xs most l bad).2 ∧ FrP p base w w' := by
  have n0 := (hB.blk.cell o).trans hc
  have n1 := hB.blk.lt
  have H := Lib.hid h
  have HB := Lib.hid hB
  have HC := Lib.hid hc
  have HS := Lib.hid hS
  have HM := Lib.hid hmost
  have HPT := Lib.hid hpart
  have HSM := Lib.hid hsm
  have HL := Lib.hid hl
  have HL2 := Lib.hid hl2
  have hx0 : (0 : Int) ≤ (xs.length : Int) := by omega
  have hx1 : (xs.length : Int) ≤ 9223372036854775807 := by simp only [maxLen] at hm; omega
  have HN := Lib.hid (Src.mk (Blk.new w 3 [.int .i64 xs.length]) (by decide) (by decide))
  have HF := Lib.hid ((Fr.refl No w).alloc (Obj.cells #[.int .i64 xs.length] 3))
  have HE := Lib.hid (manyBad_len bad xs.length most)
  obtain ⟨F, hF⟩ : ∃ F, F = listW bytes pbad xs most l bad := ⟨_, rfl⟩
  rw [← hF]
  have HFF := Lib.hid hF
  clear h hB hc hS hm hmost hpart hsm hl hl2 hF
  obtain ⟨nb, hnb⟩ : ∃ nb, nb = w.heap.size := ⟨_, rfl⟩
  rw [← hnb] at HN
  have HNB := Lib.hid hnb
  clear hnb
  go_enter Try.func105, Try.ntmps105
  go_wp2_with (first
    | (rw [← HNB.out]; go_at_call 111; refine (manyW_any p base v l bad nb 0 3 _ xs.length most _ (H.out.fr0 HF.out) HN.out rfl (by have := HL.out; omega)).mono ?_; rintro e w1 ⟨⟨u1, rfl⟩, v1, hp1, hf1⟩; rw [HE.out] at hp1; have HP1 := Lib.hid hp1; have HF1 := Lib.hid ((FrP.no HF.out).trans hf1); have HN1 := Lib.hid (HN.out.frp (H.out.fr0 HF.out) hf1); clear hp1 hf1 n0 n1))
  have hF0 := HFF.out
  rw [listW] at hF0
  have HF0 := Lib.hid hF0
  have HBD := Lib.hid (show (bad || decide (most < xs.length)) = false → bad = false ∧ xs.length ≤ most by simp)
  obtain ⟨bd0, hbd0⟩ : ∃ bd0, bd0 = (bad || decide (most < xs.length)) := ⟨_, rfl⟩
  rw [← hbd0] at HP1 HF0 HBD
  obtain ⟨l1, hl1⟩ : ∃ l1, l1 = l ++ leB (u64N xs.length) 8 := ⟨_, rfl⟩
  rw [← hl1] at HP1 HF0
  have HL1 := Lib.hid (show l1.length = l.length + 8 by rw [hl1, List.length_append, leB_length])
  clear hF0 hbd0 hl1 HFF HE
  go_loopg [9] xs.length (fun g v9 wr => LWRel bytes pbad w1 p base xs F bd0 (l.length + 8) g v9 wr)
  case atStart => exact ⟨0, v1, l1, bd0, by omega, rfl, HP1.out, by rw [List.drop_zero]; exact HF0.out.symm, fun hz => ⟨hz, by have := HL1.out; omega⟩, FrP.refl _ _ _⟩
  case round =>
    obtain ⟨i, u, li, bi, hgi, rfl, hp, hfo, hle, hf⟩ := hrel
    have HP := Lib.hid hp
    have HFO := Lib.hid hfo
    have HLE := Lib.hid hle
    have HFR := Lib.hid hf
    have hi0 : (0 : Int) ≤ (i : Int) := by omega
    have c0 := hp.blk.cell 0
    have c1 := hp.blk.cell 1
    have c2 := hp.blk.cell 2
    have c4 := hp.blk.lt
    simp only [List.getElem?_cons_zero, List.getElem?_cons_succ] at c0 c1 c2
    have N1 := (HN1.out.frp HP1.out hf).blk
    have e0 := N1.cell 0
    have e1 := N1.lt
    simp only [List.getElem?_cons_zero] at e0
    have B1 := ((HB.out.frp H.out HF1.out).frp HP1.out hf).blk
    have n0 := (B1.cell o).trans HC.out
    have n1 := B1.lt
    clear hp hfo hle hf N1 B1
    by_cases hi : i < xs.length
    · have hi1 : (i : Int) < (xs.length : Int) := by omega
      cases bi
      · obtain ⟨x, hx⟩ : ∃ x, xs[i]? = some x := ⟨_, List.getElem?_eq_getElem hi⟩
        obtain ⟨g, oo, rfl, hg1, ⟨k0, k1, k2, k3⟩⟩ := held_at (HS.out _ (HF1.out.trans HFR.out)) hx
        have HX := Lib.hid hx
        clear hx
        have HBL := Lib.hid (show li.length ≤ 1000000000 by
          obtain ⟨hz, hbl⟩ := HLE.out (by first | exact rfl | trivial)
          have h3 := HBD.out hz
          have := HL2.out h3.1
          have := HM.out
          omega)
        go_wp2_with (first
          | (go_at_call 106; refine (HPT.out x (List.mem_of_getElem? HX.out) _ u li wr.heap.size (HP.out.fr0 ((Fr.refl No wr).alloc (Obj.cells (HeldS.vals x).toArray 125))) (Blk.new wr 125 (HeldS.vals x)) HBL.out).mono ?_; rintro e w2 ⟨⟨u2, rfl⟩, v2, hp2, hf2⟩; have HP2 := Lib.hid hp2; have HF2 := Lib.hid ((FrP.no (p := p) (base := base) ((Fr.refl No wr).alloc (Obj.cells (HeldS.vals x).toArray 125))).trans hf2); have d1 := hp2.blk.cell 1; have d4 := hp2.blk.lt; simp only [List.getElem?_cons_zero, List.getElem?_cons_succ] at d1; clear hp2 hf2))
        go_roundg (xs.length - (i + 1))
        case measure => omega
        case rel =>
          refine ⟨i + 1, v2, _, _, by omega, by go_num, HP2.out, ?_, fun hz => ?_, HFR.out.trans HF2.out⟩
          · rw [← foldW_drop bytes pbad HX.out]; exact HFO.out
          · obtain ⟨hz0, hbl⟩ := HLE.out (by first | exact rfl | trivial)
            have := HSM.out x (List.mem_of_getElem? HX.out) hz
            refine ⟨hz0, ?_⟩
            rw [List.length_append]
            omega
      · have hFx := HFO.out
        rw [foldW_bad] at hFx
        have HFX := Lib.hid hFx
        clear hFx
        go_wp2
        refine bodyPost_end (v := .tuple #[]) (by simp [results, Try.results105, go_sem]) rfl ⟨⟨_, rfl⟩, u, ?_, HF1.out.trans HFR.out⟩
        rw [← HFX.out]
        exact HP.out
    · have hi1 : (xs.length : Int) ≤ (i : Int) := by omega
      obtain rfl : i = xs.length := by omega
      have hFx := HFO.out
      rw [List.drop_length, foldW_nil] at hFx
      have HFX := Lib.hid hFx
      clear hFx
      go_wp2
      refine bodyPost_end (v := .tuple #[]) (by simp [results, Try.results105, go_sem]) rfl ⟨⟨_, rfl⟩, u, ?_, HF1.out.trans HFR.out⟩
      rw [← HFX.out]
      exact HP.out
set_option maxRecDepth 100000 in
set_option maxHeartbeats 1000000 in
theorem keepOf_part (p base : Nat) (x : Int) : PartW 98 3 (fun x => [Value.int .i64 x]) (fun x : Int => leB (u64N x) 8) (fun _ => false) p base x := by
  intro w v l xb h hB hl
  have H := Lib.hid h
  have HB := Lib.hid hB
  have HL := Lib.hid hl
  clear h hB hl
  go_enter Try.func98, Try.ntmps98
  go_wp2_with (go_at_call 94; refine (numW_int p base v l false xb 0 x _ H.out (HB.out.cell 0) HB.out.lt (by have := HL.out; omega)).mono ?_; rintro e w1 ⟨⟨u1, rfl⟩, v1, hp1, hf1⟩)
  exact bodyPost_end (v := .tuple #[]) (by simp [results, Try.results98, go_sem]) rfl ⟨⟨_, rfl⟩, v1, hp1, hf1⟩
end Go.Proofs.Ytegogggemmcgdaa

/- codec: an event that is written. -/
namespace Go.Proofs.Ytegogggemmcgdaa
open Go Go.RowKit Go.Proofs

structure EvS where
  kind : Int
  n : Int
  code : Int
  name : ByteArray
  keep : List Int
abbrev keepB (x : Int) : Bs := leB (u64N x) 8
def evPre (x : EvS) (l : Bs) : Bs := l ++ leB (u64N x.kind) 8 ++ numB [x.n, x.code] ++ textB x.name
def evW (x : EvS) (l : Bs) : Bs × Bool := listW keepB (fun _ => false) x.keep 255 (evPre x l) (longB x.name)
abbrev EvS.cells (x : EvS) (A : Option Addr) (c : Nat) : List Value := [.int .i64 x.kind, .int .i64 x.n, .int .i64 x.code, .string x.name, .slice A x.keep.length c]
theorem src2 {w : World} {xb : Nat} {t : TypeId} {cs : List Value} (h : Src w xb t cs) {a b : Nat} {na nb : Int} (h0 : cs[a]? = some (.int .i64 na)) (h1 : cs[b]? = some (.int .i64 nb)) :
    ∀ (i : Nat) (q : Nat × Nat) (n : Int), [(xb, a), (xb, b)][i]? = some q → [na, nb][i]? = some n → ∃ t cs, Src w q.1 t cs ∧ cs[q.2]? = some (.int .i64 n) := by
  intro i q n hq hn
  match i, hq, hn with
  | 0, hq, hn => simp only [List.getElem?_cons_zero, Option.some.injEq] at hq hn; subst hq hn; exact ⟨t, cs, h, h0⟩
  | 1, hq, hn => simp only [List.getElem?_cons_zero, List.getElem?_cons_succ, Option.some.injEq] at hq hn; subst hq hn; exact ⟨t, cs, h, h1⟩
  | k + 2, hq, _ => simp at hq
theorem evPre_eq (x : EvS) (l : Bs) : l ++ leB (u64N x.kind) 8 ++ numB [x.n, x.code] ++ leB (u64N x.name.size) 8 ++ x.name.data.toList = evPre x l := by
  simp only [evPre, textB_eq, List.append_assoc]
theorem evPre_length (x : EvS) (l : Bs) : (evPre x l).length = l.length + 32 + x.name.size := by
  simp only [evPre, List.length_append, leB_length, numB_length, textB_length, List.length_cons, List.length_nil]
  omega
set_option maxRecDepth 100000 in
set_option maxHeartbeats 4000000 in
theorem eventOf_w (p base : Nat) (v : Value) (l : Bs) (xb : Nat) (x : EvS) (A : Option Addr) (c : Nat) (et : TypeId) (w : World) (h : PipeW w p base v l false) (hB : Blk w xb 49 (x.cells A c)) (hS : ∀ w', FrP p base w w' → Sl w' et 1 A x.keep.length (x.keep.flatMap fun x => [Value.int .i64 x]))
    (hk : x.keep.length ≤ maxLen) (hx : x.name.size ≤ 140737488355328) (hl : l.length ≤ 1000) :
    Calls Try.prog 59 #[.pointer (some ⟨p, 0, none⟩), .pointer (some ⟨xb, 0, none⟩)] w fun e w' => (∃ u, e = .returned u) ∧ ∃ v', PipeW w' p base v' (evW x l).1 (evW x l).2 ∧ FrP p base w w' := by
  have H := Lib.hid h
  have HS := Lib.hid (Src.mk hB (by decide) (by decide))
  have HK := Lib.hid hS
  have HL := Lib.hid hl
  have HX := Lib.hid hx
  have HM := Lib.hid hk
  have HF := Lib.hid (FrP.refl p base w)
  obtain ⟨F, hF⟩ : ∃ F, F = evW x l := ⟨_, rfl⟩
  rw [← hF]
  have HFF := Lib.hid hF
  clear h hB hl hx hS hk hF
  go_enter Try.func59, Try.ntmps59
  go_wp2_with (first
    | (go_at_call 94; refine (numW_int p base _ l _ xb 0 x.kind _ H.out (HS.out.blk.cell 0) HS.out.blk.lt (by have := HL.out; omega)).mono ?_; rintro e w1 ⟨⟨u1, rfl⟩, v1, hp1, hf1⟩; have HP1 := Lib.hid hp1; have HF1 := Lib.hid hf1; clear hp1 hf1))
  refine wp_region_o [(0, 0), (1, 0), (2, 0), (3, 0), (4, 0), (5, 0), (6, 0), (7, 2), (8, 3)] (by kernel_rfl) (by kernel_rfl) ?_
  repeat (first
    | (apply wpO_pure rfl rfl; (focus (intro w'; go_simp; (try rfl); done)); try simp only [Act.put, List.setIfInBounds_toArray, List.set_cons_zero, List.set_cons_succ])
    | (apply wpO_read rfl rfl; (focus (intro w' hf' hs'; (try simp only [World.size_drew, World.cell?_drew, World.size_alloc, World.size_setCell] at hs'); go_simp; (try rfl); done)); try simp only [Act.put, List.setIfInBounds_toArray, List.set_cons_zero, List.set_cons_succ])
    | (apply wpO_skip (by decide) rfl rfl; try simp only [Act.put, List.setIfInBounds_toArray, List.set_cons_zero, List.set_cons_succ]))
  refine wpO_loudE rfl fun K hK => ?_
  go_simp
  refine hK _ _ ⟨by (repeat (first | exact Fr.refl _ _ | assumption | refine Fr.drew ?_ | refine Fr.alloc ?_ _ | refine Fr.drewL ?_)), ?_⟩
  clear hK K
  repeat (first
    | (apply wpO_pure rfl rfl; (focus (intro w'; go_simp; (try rfl); done)); try simp only [Act.put, List.setIfInBounds_toArray, List.set_cons_zero, List.set_cons_succ])
    | (apply wpO_read rfl rfl; (focus (intro w' hf' hs'; (try simp only [World.size_drew, World.cell?_drew, World.size_alloc, World.size_setCell] at hs'); go_simp; (try rfl); done)); try simp only [Act.put, List.setIfInBounds_toArray, List.set_cons_zero, List.set_cons_succ])
    | (apply wpO_skip (by decide) rfl rfl; try simp only [Act.put, List.setIfInBounds_toArray, List.set_cons_zero, List.set_cons_succ]))
  have F2 := ((Fr.refl No w1).alloc (Obj.cells ([(xb, 1), (xb, 2)].map ptrV).toArray 160)).drew
  have G2 := Src.mk (Blk.new w1 160 ([(xb, 1), (xb, 2)].map ptrV)).drew (by decide) (by decide)
  have S2 := (HS.out.frp H.out HF1.out).fr0 F2
  refine wpO_loud rfl fun K hK => ?_
  go_simp
  refine (numsW_any p base v1 (l ++ leB (u64N x.kind) 8) false w1.heap.size 2 _ [(xb, 1), (xb, 2)] [x.n, x.code] _ (HP1.out.fr0 F2) G2 rfl (src2 S2 rfl rfl) (by simp only [List.length_append, leB_length, List.length_cons, List.length_nil]; have := HL.out; omega)).mono ?_
  rintro e w3 ⟨⟨u3, rfl⟩, v3, hp3, hf3⟩
  refine hK _ _ ?_
  clear hK K
  have HP3 := Lib.hid hp3
  have HF3 := Lib.hid ((HF1.out.fr0 F2).trans hf3)
  clear hp3 hf3 F2 G2 S2
  repeat (first
    | (apply wpO_pure rfl rfl; (focus (intro w'; go_simp; (try rfl); done)); try simp only [Act.put, List.setIfInBounds_toArray, List.set_cons_zero, List.set_cons_succ])
    | (apply wpO_read rfl rfl; (focus (intro w' hf' hs'; (try simp only [World.size_drew, World.cell?_drew, World.size_alloc, World.size_setCell] at hs'); go_simp; (try rfl); done)); try simp only [Act.put, List.setIfInBounds_toArray, List.set_cons_zero, List.set_cons_succ])
    | (apply wpO_skip (by decide) rfl rfl; try simp only [Act.put, List.setIfInBounds_toArray, List.set_cons_zero, List.set_cons_succ]))
  refine wpO_nil ?_
  go_wp2_with (first
    | (go_at_call 96; refine (textW_any p base _ (l ++ leB (u64N x.kind) 8 ++ numB [x.n, x.code]) _ xb 3 _ _ x.name 255 _ HP3.out (HS.out.frp H.out HF3.out) rfl (by simp only [List.length_append, leB_length, numB_length, List.length_cons, List.length_nil]; have := HL.out; have := HX.out; omega)).mono ?_; rintro e w4 ⟨⟨u4, rfl⟩, v4, hp4, hf4⟩; rw [manyBad_long, evPre_eq] at hp4; have HP4 := Lib.hid hp4; have HF4 := Lib.hid (HF3.out.trans hf4); clear hp4 hf4)
    | (go_at_call 97; refine (listW_int keepB (fun _ => false) p base v4 (evPre x l) (longB x.name) xb 4 _ _ A c et x.keep 255 _ HP4.out (HS.out.frp H.out HF4.out) rfl (fun w' hw' => HK.out w' (HF4.out.trans hw')) HM.out (by omega) (fun y _ => keepOf_part p base y) (fun y _ _ => by simp only [leB_length]; omega) (by rw [evPre_length]; have := HL.out; have := HX.out; omega) (fun hz => by rw [evPre_length]; have := HL.out; have hz' : x.name.size ≤ 255 := (by simpa [longB] using hz); omega)).mono ?_; rintro e w5 ⟨⟨u5, rfl⟩, v5, hp5, hf5⟩; have HP5 := Lib.hid hp5; have HF5 := Lib.hid (HF4.out.trans hf5); clear hp5 hf5))
  refine bodyPost_end (v := .tuple #[]) (by simp [results, Try.results59, go_sem]) rfl ⟨⟨_, rfl⟩, v5, ?_, HF5.out⟩
  rw [HFF.out]
  exact HP5.out
set_option maxRecDepth 100000 in
set_option maxHeartbeats 1000000 in
theorem written_any (p base most : Nat) (v : Value) (l : Bs) (bad : Bool) (w : World) (h : PipeW w p base v l bad) :
    Calls Try.prog 60 #[.pointer (some ⟨p, 0, none⟩), .int .i64 most] w fun e w' => w' = w ∧ ∃ A c, e = .returned (.tuple #[.slice A (if bad || decide (most < l.length) then [] else l).length c, .int .i64 (if bad || decide (most < l.length) then 3 else 0)]) ∧ w.ownsRow base 5 1 (.slice A (if bad || decide (most < l.length) then [] else l).length c) (if bad || decide (most < l.length) then [] else l).length (enc8 (if bad || decide (most < l.length) then [] else l)) := by
  obtain ⟨A, c, rfl, _⟩ := own_shape h.buf
  have HO := Lib.hid h.buf
  have c0 := h.blk.cell 0
  have c2 := h.blk.cell 2
  have c4 := h.blk.lt
  simp only [List.getElem?_cons_zero, List.getElem?_cons_succ] at c0 c2
  clear h
  cases bad
  · by_cases hl : most < l.length
    · have hl1 : (most : Int) < (l.length : Int) := by omega
      simp only [hl, decide_true, Bool.or_true, if_true]
      clear hl
      go_enter Try.func60, Try.ntmps60
      go_wp2
      go_ret2
      exact ⟨rfl, none, 0, by rfl, World.ownsRow_nil w _ _ _⟩
    · have hl1 : ¬ (most : Int) < (l.length : Int) := by omega
      simp only [hl, decide_false, Bool.or_false, Bool.false_eq_true, if_false]
      clear hl
      go_enter Try.func60, Try.ntmps60
      go_wp2
      go_ret2
      exact ⟨rfl, A, c, by rfl, HO.out⟩
  · simp only [Bool.true_or, if_true]
    go_enter Try.func60, Try.ntmps60
    go_wp2
    go_ret2
    exact ⟨rfl, none, 0, by rfl, World.ownsRow_nil w _ _ _⟩
end Go.Proofs.Ytegogggemmcgdaa

/- codec: a state that is written; PutEvent, PutState. -/
namespace Go.Proofs.Ytegogggemmcgdaa
open Go Go.RowKit Go.Proofs

structure StS where
  clock : Int
  day : Int
  id : Int
  run : Int
  jobs : List JSt
  conds : List CondS
  res : List ResS
  held : List HeldS
abbrev noBad {α : Type} : α → Bool := fun _ => false
def badC (x : CondS) : Bool := longB x.name
def badR (x : ResS) : Bool := longB x.name
def badH (x : HeldS) : Bool := longB x.name
/-- how long: at most M, while nothing was bad -/
def GoodW (M : Nat) (s : Bs × Bool) : Prop := (s.2 = false → s.1.length ≤ M) ∧ s.1.length ≤ M + 140737488360000
theorem foldW_good {α : Type} {bytes : α → Bs} {pbad : α → Bool} : ∀ (xs : List α) (l : Bs) (bad : Bool) (m : Nat), (∀ x ∈ xs, pbad x = false → (bytes x).length ≤ 400) → (∀ x ∈ xs, (bytes x).length ≤ 140737488355728) → GoodW m (l, bad) → GoodW (m + 400 * xs.length) (foldW bytes pbad xs l bad)
  | [], l, bad, m, _, _, h => by rw [foldW_nil]; exact h
  | x :: xs, l, true, m, _, _, h => by
    rw [foldW_bad]
    have h2 := h.2
    exact ⟨fun h => (by cases h), by simp only at h2 ⊢; omega⟩
  | x :: xs, l, false, m, hs, hb, h => by
    have e : foldW bytes pbad (x :: xs) l false = foldW bytes pbad xs (l ++ bytes x) (pbad x) := by
      have := foldW_drop bytes pbad (xs := x :: xs) (i := 0) (x := x) rfl l
      simpa using this
    rw [e]
    have h1 := h.1 rfl
    have h2 := hb x List.mem_cons_self
    have key : GoodW (m + 400) (l ++ bytes x, pbad x) := by
      refine ⟨fun hz => ?_, ?_⟩
      · have := hs x List.mem_cons_self hz
        simp only [List.length_append] at h1 ⊢
        omega
      · simp only [List.length_append] at h1 ⊢
        omega
    have := foldW_good xs (l ++ bytes x) (pbad x) (m + 400) (fun y hy => hs y (List.mem_cons_of_mem _ hy)) (fun y hy => hb y (List.mem_cons_of_mem _ hy)) key
    have e2 : m + 400 * (x :: xs).length = m + 400 + 400 * xs.length := by simp only [List.length_cons]; omega
    rw [e2]
    exact this
theorem listW_good {α : Type} {bytes : α → Bs} {pbad : α → Bool} {xs : List α} {most : Nat} {l : Bs} {bad : Bool} {m : Nat} (hm : most ≤ 4096) (hs : ∀ x ∈ xs, pbad x = false → (bytes x).length ≤ 400) (hb : ∀ x ∈ xs, (bytes x).length ≤ 140737488355728) (h : GoodW m (l, bad)) :
    GoodW (m + 1638408) (listW bytes pbad xs most l bad) := by
  unfold listW
  have h1 := h.1
  have h2 := h.2
  by_cases hk : xs.length ≤ most
  · have e : (bad || decide (most < xs.length)) = bad := by simp [Nat.not_lt.2 hk]
    rw [e]
    have := foldW_good xs (l ++ leB (u64N xs.length) 8) bad (m + 8) hs hb ⟨fun hz => by have := h1 hz; simp only [List.length_append, leB_length] at this ⊢; omega, by simp only [List.length_append, leB_length] at h2 ⊢; omega⟩
    exact ⟨fun hz => by have := this.1 hz; omega, by have := this.2; omega⟩
  · have e : (bad || decide (most < xs.length)) = true := by simp [Nat.lt_of_not_le hk]
    rw [e, foldW_bad]
    exact ⟨fun hz => (by cases hz), by simp only [List.length_append, leB_length] at h2 ⊢; omega⟩
def stPre (source : ByteArray) (x : StS) (l : Bs) : Bs := l ++ textB source ++ numB [x.clock, x.day, x.id, x.run]
def stW (source : ByteArray) (x : StS) (l : Bs) : Bs × Bool :=
  let s1 := listW bytesJ noBad x.jobs 4096 (stPre source x l) (decide (8192 < source.size))
  let s2 := listW bytesC badC x.conds 4096 s1.1 s1.2
  let s3 := listW bytesR badR x.res 4096 s2.1 s2.2
  listW bytesH badH x.held 4096 s3.1 s3.2
theorem bytesJ_length (x : JSt) : (bytesJ x).length = 66 := by
  simp only [bytesJ, List.length_append, leB_length, bitB_length, numB_length, List.length_cons, List.length_nil]
theorem bytesC_length (x : CondS) : (bytesC x).length = 16 + x.name.size := by
  simp only [bytesC, List.length_append, leB_length, textB_length]; omega
theorem bytesR_length (x : ResS) : (bytesR x).length = 17 + x.name.size := by
  simp only [bytesR, List.length_append, leB_length, textB_length, bitB_length]; omega
theorem bytesH_length (x : HeldS) : (bytesH x).length = 32 + x.name.size := by
  simp only [bytesH, List.length_append, leB_length, textB_length]; omega
theorem longB_no {s : ByteArray} (h : longB s = false) : s.size ≤ 255 := by simpa [longB] using h
/-- what a state's lists are made of -/
structure StOk (source : ByteArray) (x : StS) : Prop where
  src : source.size ≤ 140737488355328
  conds : ∀ y ∈ x.conds, y.name.size ≤ 140737488355328
  res : ∀ y ∈ x.res, y.name.size ≤ 140737488355328
  held : ∀ y ∈ x.held, y.name.size ≤ 140737488355328
  lj : x.jobs.length ≤ maxLen
  lc : x.conds.length ≤ maxLen
  lr : x.res.length ≤ maxLen
  lh : x.held.length ≤ maxLen
abbrev StS.cells (x : StS) (A0 A1 A2 A3 : Option Addr) (c0 c1 c2 c3 : Nat) : List Value := [.int .i64 x.clock, .int .i64 x.day, .int .i64 x.id, .int .i64 x.run, .slice A0 x.jobs.length c0, .slice A1 x.conds.length c1, .slice A2 x.res.length c2, .slice A3 x.held.length c3]
structure StSl (w : World) (x : StS) (A0 A1 A2 A3 : Option Addr) (e0 e1 e2 e3 : TypeId) : Prop where
  jobs : Sl w e0 10 A0 x.jobs.length (x.jobs.flatMap JSt.vals)
  conds : Sl w e1 2 A1 x.conds.length (x.conds.flatMap CondS.vals)
  res : Sl w e2 3 A2 x.res.length (x.res.flatMap ResS.vals)
  held : Sl w e3 4 A3 x.held.length (x.held.flatMap HeldS.vals)
theorem stPre_eq (source : ByteArray) (x : StS) (l : Bs) : l ++ leB (u64N source.size) 8 ++ source.data.toList ++ numB [x.clock, x.day, x.id, x.run] = stPre source x l := by
  simp only [stPre, textB_eq, List.append_assoc]
theorem stPre_length (source : ByteArray) (x : StS) (l : Bs) : (stPre source x l).length = l.length + 40 + source.size := by
  simp only [stPre, List.length_append, leB_length, numB_length, textB_length, List.length_cons, List.length_nil]
  omega
theorem good_hl {m : Nat} {s : Bs × Bool} (h : GoodW m s) (hm : m ≤ 10000000) : s.1.length ≤ 149000000000000 := by have := h.2; omega
theorem good_hl2 {m : Nat} {s : Bs × Bool} (h : GoodW m s) (hm : m ≤ 10000000) : s.2 = false → s.1.length ≤ 900000000 := fun hz => by have := h.1 hz; omega
set_option maxRecDepth 100000 in
set_option maxHeartbeats 4000000 in
theorem stateOf_w (p base : Nat) (v : Value) (l : Bs) (sb xb : Nat) (source : ByteArray) (x : StS) (A0 A1 A2 A3 : Option Addr) (c0 c1 c2 c3 : Nat) (e0 e1 e2 e3 : TypeId) (w : World) (h : PipeW w p base v l false) (hB0 : Blk w sb 9 [.string source]) (hB : Blk w xb 67 (x.cells A0 A1 A2 A3 c0 c1 c2 c3))
    (hS : ∀ w', FrP p base w w' → StSl w' x A0 A1 A2 A3 e0 e1 e2 e3) (hok : StOk source x) (hl : l.length ≤ 1000) :
    Calls Try.prog 65 #[.pointer (some ⟨p, 0, none⟩), .pointer (some ⟨sb, 0, none⟩), .pointer (some ⟨xb, 0, none⟩)] w fun e w' => (∃ u, e = .returned u) ∧ ∃ v', PipeW w' p base v' (stW source x l).1 (stW source x l).2 ∧ FrP p base w w' := by
  have H := Lib.hid h
  have HS0 := Lib.hid (Src.mk hB0 (by decide) (by decide))
  have HS := Lib.hid (Src.mk hB (by decide) (by decide))
  have HK := Lib.hid hS
  have HL := Lib.hid hl
  have HX := Lib.hid hok
  have HF := Lib.hid (FrP.refl p base w)
  obtain ⟨F, hF⟩ : ∃ F, F = stW source x l := ⟨_, rfl⟩
  rw [← hF]
  have hm := manyBad_len false source.size 8192
  simp only [Bool.false_or] at hm
  have hm2 : manyBad false (source.size : Int) 8192 = decide (8192 < source.size) := hm
  have HMB := Lib.hid hm2
  have G0 := Lib.hid (show GoodW 10000 (stPre source x l, decide (8192 < source.size)) from ⟨fun hz => by
    have : source.size ≤ 8192 := (by simpa using hz)
    simp only [stPre_length]; omega, by have := hok.src; simp only [stPre_length]; omega⟩)
  obtain ⟨s1, hs1⟩ : ∃ s1, s1 = listW bytesJ noBad x.jobs 4096 (stPre source x l) (decide (8192 < source.size)) := ⟨_, rfl⟩
  have G1 : Hid (GoodW 1648408 s1) := Lib.hid (by rw [hs1]; exact listW_good (m := 10000) (by omega) (fun y _ _ => by rw [bytesJ_length]; omega) (fun y _ => by rw [bytesJ_length]; omega) G0.out)
  obtain ⟨s2, hs2⟩ : ∃ s2, s2 = listW bytesC badC x.conds 4096 s1.1 s1.2 := ⟨_, rfl⟩
  have G2 : Hid (GoodW 3286816 s2) := Lib.hid (by rw [hs2]; exact listW_good (m := 1648408) (by omega) (fun y _ hz => by rw [bytesC_length]; have := longB_no hz; omega) (fun y hy => by rw [bytesC_length]; have := hok.conds y hy; omega) G1.out)
  obtain ⟨s3, hs3⟩ : ∃ s3, s3 = listW bytesR badR x.res 4096 s2.1 s2.2 := ⟨_, rfl⟩
  have G3 : Hid (GoodW 4925224 s3) := Lib.hid (by rw [hs3]; exact listW_good (m := 3286816) (by omega) (fun y _ hz => by rw [bytesR_length]; have := longB_no hz; omega) (fun y hy => by rw [bytesR_length]; have := hok.res y hy; omega) G2.out)
  have HFF := Lib.hid (show F = listW bytesH badH x.held 4096 s3.1 s3.2 by rw [hF, hs3, hs2, hs1]; rfl)
  have HS1 := Lib.hid hs1
  have HS2 := Lib.hid hs2
  have HS3 := Lib.hid hs3
  clear h hB0 hB hl hok hS hF hs1 hs2 hs3 hm hm2
  go_enter Try.func65, Try.ntmps65
  go_wp2_with (first
    | (go_at_call 96; refine (textW_any p base _ l _ sb 0 _ _ source 8192 _ H.out HS0.out rfl (by have := HL.out; have := HX.out.src; omega)).mono ?_; rintro e w1 ⟨⟨u1, rfl⟩, v1, hp1, hf1⟩; rw [HMB.out] at hp1; have HP1 := Lib.hid hp1; have HF1 := Lib.hid hf1; clear hp1 hf1))
  refine wp_region_o [(0, 0), (1, 0), (2, 0), (3, 0), (4, 0), (5, 0), (6, 0), (7, 0), (8, 0), (9, 0), (10, 0), (11, 0), (12, 0), (13, 2), (14, 3)] (by kernel_rfl) (by kernel_rfl) ?_
  repeat (first
    | (apply wpO_pure rfl rfl; (focus (intro w'; go_simp; (try rfl); done)); try simp only [Act.put, List.setIfInBounds_toArray, List.set_cons_zero, List.set_cons_succ])
    | (apply wpO_read rfl rfl; (focus (intro w' hf' hs'; (try simp only [World.size_drew, World.cell?_drew, World.size_alloc, World.size_setCell] at hs'); go_simp; (try rfl); done)); try simp only [Act.put, List.setIfInBounds_toArray, List.set_cons_zero, List.set_cons_succ])
    | (apply wpO_skip (by decide) rfl rfl; try simp only [Act.put, List.setIfInBounds_toArray, List.set_cons_zero, List.set_cons_succ]))
  refine wpO_loudE rfl fun K hK => ?_
  go_simp
  refine hK _ _ ⟨by (repeat (first | exact Fr.refl _ _ | assumption | refine Fr.drew ?_ | refine Fr.alloc ?_ _ | refine Fr.drewL ?_)), ?_⟩
  clear hK K
  repeat (first
    | (apply wpO_pure rfl rfl; (focus (intro w'; go_simp; (try rfl); done)); try simp only [Act.put, List.setIfInBounds_toArray, List.set_cons_zero, List.set_cons_succ])
    | (apply wpO_read rfl rfl; (focus (intro w' hf' hs'; (try simp only [World.size_drew, World.cell?_drew, World.size_alloc, World.size_setCell] at hs'); go_simp; (try rfl); done)); try simp only [Act.put, List.setIfInBounds_toArray, List.set_cons_zero, List.set_cons_succ])
    | (apply wpO_skip (by decide) rfl rfl; try simp only [Act.put, List.setIfInBounds_toArray, List.set_cons_zero, List.set_cons_succ]))
  have F2 := ((Fr.refl No w1).alloc (Obj.cells ([(xb, 0), (xb, 1), (xb, 2), (xb, 3)].map ptrV).toArray 160)).drew
  have R2 := Src.mk (Blk.new w1 160 ([(xb, 0), (xb, 1), (xb, 2), (xb, 3)].map ptrV)).drew (by decide) (by decide)
  have S2 := (HS.out.frp H.out HF1.out).fr0 F2
  refine wpO_loud rfl fun K hK => ?_
  go_simp
  refine (numsW_any p base v1 (l ++ leB (u64N source.size) 8 ++ source.data.toList) _ w1.heap.size 4 _ [(xb, 0), (xb, 1), (xb, 2), (xb, 3)] [x.clock, x.day, x.id, x.run] _ (HP1.out.fr0 F2) R2 rfl (src4 S2 rfl rfl rfl rfl) (by have e : source.data.toList.length = source.size := Array.length_toList; simp only [List.length_append, leB_length, List.length_cons, List.length_nil, e]; have := HL.out; have := HX.out.src; omega)).mono ?_
  rintro e w3 ⟨⟨u3, rfl⟩, v3, hp3, hf3⟩
  refine hK _ _ ?_
  clear hK K
  rw [stPre_eq] at hp3
  have HP3 := Lib.hid hp3
  have HF3 := Lib.hid ((HF1.out.fr0 F2).trans hf3)
  clear hp3 hf3 F2 R2 S2
  repeat (first
    | (apply wpO_pure rfl rfl; (focus (intro w'; go_simp; (try rfl); done)); try simp only [Act.put, List.setIfInBounds_toArray, List.set_cons_zero, List.set_cons_succ])
    | (apply wpO_read rfl rfl; (focus (intro w' hf' hs'; (try simp only [World.size_drew, World.cell?_drew, World.size_alloc, World.size_setCell] at hs'); go_simp; (try rfl); done)); try simp only [Act.put, List.setIfInBounds_toArray, List.set_cons_zero, List.set_cons_succ])
    | (apply wpO_skip (by decide) rfl rfl; try simp only [Act.put, List.setIfInBounds_toArray, List.set_cons_zero, List.set_cons_succ]))
  refine wpO_nil ?_
  go_wp2_with (first
    | (go_at_call 99; go_loud (refine (listW_job bytesJ noBad p base v3 (stPre source x l) _ xb 4 _ _ A0 c0 e0 x.jobs 4096 _ HP3.out (HS.out.frp H.out HF3.out) rfl (fun w' hw' => (HK.out w' (HF3.out.trans hw')).jobs) HX.out.lj (by omega) (fun y _ => jobOf_part p base y) (fun y _ _ => by rw [bytesJ_length]; omega) (good_hl G0.out (by omega)) (good_hl2 G0.out (by omega))).mono ?_); rintro e w4 ⟨⟨u4, rfl⟩, v4, hp4, hf4⟩; rw [← HS1.out] at hp4; have HP4 := Lib.hid hp4; have HF4 := Lib.hid (HF3.out.trans hf4); clear hp4 hf4)
    | (go_at_call 101; go_loud (refine (listW_cond bytesC badC p base v4 s1.1 s1.2 xb 5 _ _ A1 c1 e1 x.conds 4096 _ HP4.out (HS.out.frp H.out HF4.out) rfl (fun w' hw' => (HK.out w' (HF4.out.trans hw')).conds) HX.out.lc (by omega) (fun y hy => condOf_part p base y (HX.out.conds y hy)) (fun y _ hz => by rw [bytesC_length]; have := longB_no hz; omega) (good_hl G1.out (by omega)) (good_hl2 G1.out (by omega))).mono ?_); rintro e w5 ⟨⟨u5, rfl⟩, v5, hp5, hf5⟩; rw [← HS2.out] at hp5; have HP5 := Lib.hid hp5; have HF5 := Lib.hid (HF4.out.trans hf5); clear hp5 hf5)
    | (go_at_call 103; go_loud (refine (listW_res bytesR badR p base v5 s2.1 s2.2 xb 6 _ _ A2 c2 e2 x.res 4096 _ HP5.out (HS.out.frp H.out HF5.out) rfl (fun w' hw' => (HK.out w' (HF5.out.trans hw')).res) HX.out.lr (by omega) (fun y hy => resOf_part p base y (HX.out.res y hy)) (fun y _ hz => by rw [bytesR_length]; have := longB_no hz; omega) (good_hl G2.out (by omega)) (good_hl2 G2.out (by omega))).mono ?_); rintro e w6 ⟨⟨u6, rfl⟩, v6, hp6, hf6⟩; rw [← HS3.out] at hp6; have HP6 := Lib.hid hp6; have HF6 := Lib.hid (HF5.out.trans hf6); clear hp6 hf6)
    | (go_at_call 105; go_loud (refine (listW_held bytesH badH p base v6 s3.1 s3.2 xb 7 _ _ A3 c3 e3 x.held 4096 _ HP6.out (HS.out.frp H.out HF6.out) rfl (fun w' hw' => (HK.out w' (HF6.out.trans hw')).held) HX.out.lh (by omega) (fun y hy => heldOf_part p base y (HX.out.held y hy)) (fun y _ hz => by rw [bytesH_length]; have := longB_no hz; omega) (good_hl G3.out (by omega)) (good_hl2 G3.out (by omega))).mono ?_); rintro e w7 ⟨⟨u7, rfl⟩, v7, hp7, hf7⟩; rw [← HFF.out] at hp7; have HP7 := Lib.hid hp7; have HF7 := Lib.hid (HF6.out.trans hf7); clear hp7 hf7))
  exact bodyPost_end (v := .tuple #[]) (by simp [results, Try.results65, go_sem]) rfl ⟨⟨_, rfl⟩, v7, HP7.out, HF7.out⟩
end Go.Proofs.Ytegogggemmcgdaa

/- codec: PutEvent, PutState. -/
namespace Go.Proofs.Ytegogggemmcgdaa
open Go Go.RowKit Go.Proofs

theorem FrP.after {w w1 w2 : World} {p base : Nat} (h0 : Fr No w w1) (h : FrP p base w1 w2) (hb : w.heap.size ≤ base) (hp : w.heap.size ≤ p) : Fr No w w2 :=
  h0.step h fun i hi => .inr (by
    rcases hi with e | hi
    · omega
    · have := hi.1; omega)
/-- a new pipe that is written -/
theorem pipe_start (w : World) (base : Nat) (k : UInt8) (hb : base ≤ w.heap.size) :
    PipeW ((w.alloc (Obj.cells #[.int .u8 (k.toNat : Int)] 5)).alloc (Obj.cells #[.slice (some ⟨w.heap.size, 0, none⟩) 1 1, .bool true, .bool false] 109)) (w.heap.size + 1) base (.slice (some ⟨w.heap.size, 0, none⟩) 1 1) [k] false := by
  have h1 := World.ownsRow_lit (base := base) (e := 5) (size := 1) w #[.int .u8 (k.toNat : Int)] 1 hb (by decide) rfl
  have h2 := Blk.new (w.alloc (Obj.cells #[.int .u8 (k.toNat : Int)] 5)) 109 [.slice (some ⟨w.heap.size, 0, none⟩) 1 1, .bool true, .bool false]
  rw [show (w.alloc (Obj.cells #[.int .u8 (k.toNat : Int)] 5)).heap.size = w.heap.size + 1 by simp] at h2
  exact ⟨h2, own_fr0 h1 ((Fr.refl No _).alloc _), by simp only [World.size_alloc]; omega⟩
def cutW (s : Bs × Bool) : Bs := if s.2 || decide (60000 < s.1.length) then [] else s.1
def errW (s : Bs × Bool) : Int := if s.2 || decide (60000 < s.1.length) then 3 else 0
theorem cutW_eq (s : Bs × Bool) : (if s.2 || decide (60000 < s.1.length) then [] else s.1) = cutW s := rfl
theorem errW_eq (s : Bs × Bool) : (if s.2 || decide (60000 < s.1.length) then (3 : Int) else 0) = errW s := rfl
/-- what a Put of the codec leaves -/
def PutW (s : Bs × Bool) (w : World) (e : Ending) (w' : World) : Prop :=
  ∃ A c, e = .returned (.tuple #[.slice A (cutW s).length c, .int .i64 (errW s)]) ∧ w'.ownsRow w.heap.size 5 1 (.slice A (cutW s).length c) (cutW s).length (enc8 (cutW s)) ∧ Fr No w w'
attribute [irreducible] cutW errW
set_option maxRecDepth 100000 in
set_option maxHeartbeats 2000000 in
theorem putEvent_any (x : EvS) (A : Option Addr) (c : Nat) (et : TypeId) (w : World) (hk : Sl w et 1 A x.keep.length (x.keep.flatMap fun x => [Value.int .i64 x])) (hm : x.keep.length ≤ maxLen) (hx : x.name.size ≤ 140737488355328) :
    Calls Try.prog 25 #[.agg #[.int .i64 x.kind, .int .i64 x.n, .int .i64 x.code, .string x.name, .slice A x.keep.length c]] w (PutW (evW x [225]) w) := by
  have HK := Lib.hid hk
  have HM := Lib.hid hm
  have HX := Lib.hid hx
  obtain ⟨s, hs⟩ : ∃ s, s = evW x [225] := ⟨_, rfl⟩
  rw [← hs]
  have HS := Lib.hid hs
  have F0 := Lib.hid ((((Fr.refl No w).alloc (Obj.cells (x.cells A c).toArray 49)).alloc (Obj.cells #[.int .u8 225] 5)).alloc (Obj.cells #[.slice (some ⟨w.heap.size + 1, 0, none⟩) 1 1, .bool true, .bool false] 109))
  have P0 := pipe_start (w.alloc (Obj.cells (x.cells A c).toArray 49)) w.heap.size 225 (by simp only [World.size_alloc]; omega)
  rw [show (w.alloc (Obj.cells (x.cells A c).toArray 49)).heap.size = w.heap.size + 1 by simp] at P0
  have HP0 := Lib.hid P0
  have HB0 := Lib.hid (((Blk.new w 49 (x.cells A c)).alloc (Obj.cells #[.int .u8 225] 5)).alloc (Obj.cells #[.slice (some ⟨w.heap.size + 1, 0, none⟩) 1 1, .bool true, .bool false] 109))
  clear hk hm hx hs P0
  go_enter Try.func25, Try.ntmps25
  go_wp2_with (first
    | (go_at_call 59; go_loud (refine (eventOf_w (w.heap.size + 1 + 1) w.heap.size _ [225] w.heap.size x A c et _ HP0.out HB0.out (fun w' hw' => HK.out.fr0 (FrP.after F0.out hw' (Nat.le_refl _) (by omega))) HM.out HX.out (by simp)).mono ?_); rintro e w1 ⟨⟨u1, rfl⟩, v1, hp1, hf1⟩; rw [← HS.out] at hp1; have HP1 := Lib.hid hp1; have HF1 := Lib.hid (FrP.after F0.out hf1 (Nat.le_refl _) (by omega)); clear hp1 hf1)
    | (go_at_call 60; go_loud (refine (written_any (w.heap.size + 1 + 1) w.heap.size 60000 v1 s.1 s.2 _ HP1.out).mono ?_); rintro e w2 ⟨hw2, A2, c2, rfl, ho2⟩; obtain rfl := hw2.symm; rw [cutW_eq, errW_eq]; rw [cutW_eq] at ho2; have HO2 := Lib.hid ho2; clear ho2))
  go_ret2
  exact ⟨A2, c2, by rfl, HO2.out, HF1.out⟩
set_option maxRecDepth 100000 in
set_option maxHeartbeats 2000000 in
theorem putState_any (source : ByteArray) (x : StS) (A0 A1 A2 A3 : Option Addr) (c0 c1 c2 c3 : Nat) (e0 e1 e2 e3 : TypeId) (w : World) (hS : StSl w x A0 A1 A2 A3 e0 e1 e2 e3) (hok : StOk source x) :
    Calls Try.prog 31 #[.string source, .agg #[.int .i64 x.clock, .int .i64 x.day, .int .i64 x.id, .int .i64 x.run, .slice A0 x.jobs.length c0, .slice A1 x.conds.length c1, .slice A2 x.res.length c2, .slice A3 x.held.length c3]] w (PutW (stW source x [87]) w) := by
  have HK := Lib.hid hS
  have HX := Lib.hid hok
  obtain ⟨s, hs⟩ : ∃ s, s = stW source x [87] := ⟨_, rfl⟩
  rw [← hs]
  have HS := Lib.hid hs
  have Fa := ((Fr.refl No w).alloc (Obj.cells #[.string source] 9)).alloc (Obj.cells (x.cells A0 A1 A2 A3 c0 c1 c2 c3).toArray 67)
  have F0 := Lib.hid ((Fa.alloc (Obj.cells #[.int .u8 87] 5)).alloc (Obj.cells #[.slice (some ⟨w.heap.size + 2, 0, none⟩) 1 1, .bool true, .bool false] 109))
  have P0 := pipe_start ((w.alloc (Obj.cells #[.string source] 9)).alloc (Obj.cells (x.cells A0 A1 A2 A3 c0 c1 c2 c3).toArray 67)) w.heap.size 87 (by simp only [World.size_alloc]; omega)
  rw [show ((w.alloc (Obj.cells #[.string source] 9)).alloc (Obj.cells (x.cells A0 A1 A2 A3 c0 c1 c2 c3).toArray 67)).heap.size = w.heap.size + 2 by simp] at P0
  have HP0 := Lib.hid P0
  have Hs0 := Lib.hid ((((Blk.new w 9 [.string source]).alloc (Obj.cells (x.cells A0 A1 A2 A3 c0 c1 c2 c3).toArray 67)).alloc (Obj.cells #[.int .u8 87] 5)).alloc (Obj.cells #[.slice (some ⟨w.heap.size + 2, 0, none⟩) 1 1, .bool true, .bool false] 109))
  have Bx := Blk.new (w.alloc (Obj.cells #[.string source] 9)) 67 (x.cells A0 A1 A2 A3 c0 c1 c2 c3)
  rw [show (w.alloc (Obj.cells #[.string source] 9)).heap.size = w.heap.size + 1 by simp] at Bx
  have HB0 := Lib.hid ((Bx.alloc (Obj.cells #[.int .u8 87] 5)).alloc (Obj.cells #[.slice (some ⟨w.heap.size + 2, 0, none⟩) 1 1, .bool true, .bool false] 109))
  clear hS hok hs P0 Fa Bx
  go_enter Try.func31, Try.ntmps31
  go_wp2_with (first
    | (go_at_call 65; go_loud (refine (stateOf_w (w.heap.size + 2 + 1) w.heap.size _ [87] w.heap.size (w.heap.size + 1) source x A0 A1 A2 A3 c0 c1 c2 c3 e0 e1 e2 e3 _ HP0.out Hs0.out HB0.out (fun w' hw' => by
         have hf := FrP.after F0.out hw' (Nat.le_refl _) (by omega)
         have hk := HK.out
         exact ⟨hk.jobs.fr0 hf, hk.conds.fr0 hf, hk.res.fr0 hf, hk.held.fr0 hf⟩) HX.out (by simp)).mono ?_); rintro e w1 ⟨⟨u1, rfl⟩, v1, hp1, hf1⟩; rw [← HS.out] at hp1; have HP1 := Lib.hid hp1; have HF1 := Lib.hid (FrP.after F0.out hf1 (Nat.le_refl _) (by omega)); clear hp1 hf1)
    | (go_at_call 60; go_loud (refine (written_any (w.heap.size + 2 + 1) w.heap.size 60000 v1 s.1 s.2 _ HP1.out).mono ?_); rintro e w2 ⟨hw2, A4, c4, rfl, ho2⟩; obtain rfl := hw2.symm; rw [cutW_eq, errW_eq]; rw [cutW_eq] at ho2; have HO2 := Lib.hid ho2; clear ho2))
  go_ret2
  exact ⟨A4, c4, by rfl, HO2.out, HF1.out⟩
end Go.Proofs.Ytegogggemmcgdaa

/- the reference's codec: numbers, texts, truths, events written. -/
namespace Go.Proofs.Ytegogggemmcgdaa
open Go Go.RowKit Go.Proofs

theorem sl_byteI (w : World) (n : Int) (i : Nat) (hi : i < 8) : Sl (w.alloc (Obj.cells #[.int .u8 (n / 2 ^ (8 * i) % 256)] 5)) 5 1 (some ⟨w.heap.size, 0, none⟩) 1 (enc8 [UInt8.ofNat (u64N n / 256 ^ i)]) := by
  have e : enc8 [UInt8.ofNat (u64N n / 256 ^ i)] = [.int .u8 (n / 2 ^ (8 * i) % 256)] := by
    rw [byte_of n i hi]; rfl
  rw [e]
  exact Sl.of_new w 5 1 1 #[.int .u8 (n / 2 ^ (8 * i) % 256)] _ rfl rfl
def RNRel (w0 : World) (base : Nat) (l : Bs) (n : Int) (g : Nat) (v0 v5 : Value) (wr : World) : Prop :=
  ∃ (i : Nat) (v : Value), i + g = 8 ∧ v5 = .int .i64 i ∧ v = v0 ∧ Buf wr base v (l ++ leB (u64N n) i) ∧ Fr (U8 base w0) w0 wr
set_option maxRecDepth 100000 in
set_option maxHeartbeats 1000000 in
theorem refNum_any (base : Nat) (v : Value) (l : Bs) (n : Int) (w : World) (h : Buf w base v l) (hb : base ≤ w.heap.size) (hl : l.length ≤ 150000000000000) :
    Calls Try.prog 61 #[v, .int .i64 n] w fun e w' => ∃ v', e = .returned v' ∧ Buf w' base v' (l ++ leB (u64N n) 8) ∧ Fr (U8 base w) w w' := by
  have H := Lib.hid h
  have HL := Lib.hid hl
  clear h hl
  go_enter Try.func61, Try.ntmps61
  go_wp2
  go_loopg [0, 5] 8 (fun g v0 v5 wr => RNRel w base l n g v0 v5 wr)
  case atStart => exact ⟨0, v, by omega, rfl, rfl, by simpa [leB] using H.out, Fr.refl _ _⟩
  case round =>
    clear H
    obtain ⟨i, u, hg, rfl, rfl, ho, hf⟩ := hrel
    have HO := Lib.hid ho
    have HF := Lib.hid hf
    have hi0 : (0 : Int) ≤ (i : Int) := by omega
    clear ho hf
    by_cases hik : i < 8
    · have hi1 : (i : Int) < 8 := by omega
      have hll : (l ++ leB (u64N n) i).length + 1 ≤ 200000000000000 := by rw [List.length_append, leB_length]; have := HL.out; omega
      go_wp2_with (at_builtin; go_loud (refine wpList_buf_append (by rfl) (.tmp 10) (.tmp 17) (by rfl) base u (l ++ leB (u64N n) i) (by rfl) (own_fr0 HO.out ((Fr.refl No wr).alloc (Obj.cells #[.int .u8 (n / 2 ^ (8 * i) % 256)] 5))) _ 1 1 _ [UInt8.ofNat (u64N n / 256 ^ i)] (by rfl) (sl_byteI wr n i hik) hll (by have := HF.out.size; simp only [World.size_alloc]; omega) ?_); intro v2 w2 ho2 hg2)
      go_roundg (8 - (i + 1))
      case measure => omega
      case rel =>
        refine ⟨i + 1, v2, by omega, by go_num, rfl, ?_, U8.grown (HF.out.alloc _) (own_fr0 HO.out ((Fr.refl No wr).alloc _)) hg2⟩
        rw [leB_succ, ← List.append_assoc]
        exact ho2
    · have hi1 : (8 : Int) ≤ (i : Int) := by omega
      obtain rfl : i = 8 := by omega
      go_wp2
      go_ret
      exact ⟨_, rfl, HO.out, HF.out⟩
set_option maxRecDepth 100000 in
set_option maxHeartbeats 1000000 in
theorem refText_any (base : Nat) (v : Value) (l : Bs) (s : ByteArray) (w : World) (h : Buf w base v l) (hb : base ≤ w.heap.size) (hl : l.length + s.size + 8 ≤ 150000000000000) :
    Calls Try.prog 62 #[v, .string s] w fun e w' => ∃ v', e = .returned v' ∧ Buf w' base v' (l ++ textB s) ∧ Fr (U8 base w) w w' := by
  have H := Lib.hid h
  have HL := Lib.hid hl
  have hs0 : (0 : Int) ≤ (s.size : Int) := by omega
  clear h hl
  go_enter Try.func62, Try.ntmps62
  go_wp2_with (first
    | (go_at_call 61; refine (refNum_any base v l s.size _ H.out hb (by have := HL.out; omega)).mono ?_; rintro e w1 ⟨v1, rfl, ho1, hf1⟩; have HO1 := Lib.hid ho1; have HF1 := Lib.hid hf1; clear ho1 hf1)
    | (at_builtin; go_loud (refine wpList_str_append (by rfl) (.tmp 9) (.tmp 10) (by rfl) base v1 (l ++ leB (u64N s.size) 8) (by rfl) HO1.out s (by rfl) (by rw [List.length_append, leB_length]; have := HL.out; omega) (Nat.le_trans hb HF1.out.size) ?_); intro v2 w2 ho2 hg2))
  go_ret
  refine ⟨_, rfl, ?_, U8.grown HF1.out HO1.out hg2⟩
  rw [textB_eq, ← List.append_assoc]
  exact ho2
set_option maxRecDepth 100000 in
set_option maxHeartbeats 1000000 in
theorem refTruth_any (base : Nat) (v : Value) (l : Bs) (is : Bool) (w : World) (h : Buf w base v l) (hb : base ≤ w.heap.size) (hl : l.length ≤ 150000000000000) :
    Calls Try.prog 67 #[v, .bool is] w fun e w' => ∃ v', e = .returned v' ∧ Buf w' base v' (l ++ bitB is) ∧ Fr (U8 base w) w w' := by
  have H := Lib.hid h
  have HL := Lib.hid hl
  clear h hl
  cases is
  · skip
    go_enter Try.func67, Try.ntmps67
    go_wp2_with (at_builtin; go_loud (refine wpList_buf_append (by rfl) (.tmp 9) (.tmp 10) (by rfl) base v l (by rfl) (own_fr0 H.out ((Fr.refl No w).alloc (Obj.cells #[.int .u8 0] 5))) _ 1 1 _ (bitB false) (by rfl) (Sl.of_new w 5 1 1 #[.int .u8 0] (enc8 (bitB false)) rfl rfl) (by have := HL.out; omega) (by simp only [World.size_alloc]; omega) ?_); intro v2 w2 ho2 hg2)
    go_ret
    exact ⟨_, rfl, ho2, U8.grown ((Fr.refl (U8 base w) w).alloc _) (own_fr0 H.out ((Fr.refl No w).alloc (Obj.cells #[.int .u8 0] 5))) hg2⟩
  · skip
    go_enter Try.func67, Try.ntmps67
    go_wp2_with (at_builtin; go_loud (refine wpList_buf_append (by rfl) (.tmp 6) (.tmp 7) (by rfl) base v l (by rfl) (own_fr0 H.out ((Fr.refl No w).alloc (Obj.cells #[.int .u8 1] 5))) _ 1 1 _ (bitB true) (by rfl) (Sl.of_new w 5 1 1 #[.int .u8 1] (enc8 (bitB true)) rfl rfl) (by have := HL.out; omega) (by simp only [World.size_alloc]; omega) ?_); intro v2 w2 ho2 hg2)
    go_ret
    exact ⟨_, rfl, ho2, U8.grown ((Fr.refl (U8 base w) w).alloc _) (own_fr0 H.out ((Fr.refl No w).alloc (Obj.cells #[.int .u8 1] 5))) hg2⟩
end Go.Proofs.Ytegogggemmcgdaa

/- the reference's PutEvent. -/
namespace Go.Proofs.Ytegogggemmcgdaa
open Go Go.RowKit Go.Proofs

theorem foldW_noBad {α : Type} (bytes : α → Bs) : ∀ (xs : List α) (l : Bs), foldW bytes noBad xs l false = (l ++ xs.flatMap bytes, false)
  | [], l => by rw [foldW_nil]; simp
  | x :: xs, l => by
    have := foldW_drop bytes noBad (xs := x :: xs) (i := 0) (x := x) rfl l
    simp only [List.drop_zero, List.drop_succ_cons] at this
    rw [this, foldW_noBad bytes xs]
    simp
def evBad (x : EvS) : Bool := longB x.name || decide (255 < x.keep.length)
def evAll (x : EvS) : Bs := evPre x [225] ++ leB (u64N x.keep.length) 8 ++ x.keep.flatMap keepB
theorem keep_length (l : List Int) : (l.flatMap keepB).length = 8 * l.length := by
  induction l with
  | nil => rfl
  | cons x l ih => simp only [List.flatMap_cons, List.length_append, leB_length, List.length_cons, ih]; omega
theorem evW_eq (x : EvS) : cutW (evW x [225]) = (if evBad x then [] else evAll x) ∧ errW (evW x [225]) = (if evBad x then 3 else 0) := by
  rw [← cutW_eq, ← errW_eq]
  unfold evW listW
  change _ = (if evBad x then _ else _) ∧ _
  have e : (longB x.name || decide (255 < x.keep.length)) = evBad x := rfl
  rw [e]
  cases hb : evBad x
  · have h1 : longB x.name = false ∧ ¬ 255 < x.keep.length := by
      unfold evBad at hb
      simpa using hb
    have h2 := longB_no h1.1
    have hlen : (evPre x [225] ++ leB (u64N x.keep.length) 8 ++ x.keep.flatMap keepB).length ≤ 60000 := by
      simp only [List.length_append, evPre_length, leB_length, keep_length, List.length_cons, List.length_nil]
      omega
    have := foldW_noBad keepB x.keep (evPre x [225] ++ leB (u64N x.keep.length) 8)
    change foldW keepB (fun _ => false) x.keep _ false = _ at this
    rw [this]
    simp only [Bool.false_or]
    have hd : decide (60000 < (evPre x [225] ++ leB (u64N x.keep.length) 8 ++ x.keep.flatMap keepB).length) = false := decide_eq_false (by omega)
    rw [hd]
    exact ⟨rfl, rfl⟩
  · rw [foldW_bad]
    exact ⟨rfl, rfl⟩
theorem numB_cons (x : Int) (l : List Int) : numB (x :: l) = leB (u64N x) 8 ++ numB l := by
  unfold numB
  simp
theorem evPre_flat (x : EvS) : [225] ++ leB (u64N x.kind) 8 ++ leB (u64N x.n) 8 ++ leB (u64N x.code) 8 ++ textB x.name = evPre x [225] := by
  simp only [evPre, numB_cons, numB_nil, List.append_assoc, List.append_nil]
theorem take_flat {α β : Type} (f : α → List β) {l : List α} {i : Nat} {x : α} (hx : l[i]? = some x) : (l.take (i + 1)).flatMap f = (l.take i).flatMap f ++ f x := by
  rw [List.take_add_one, hx, List.flatMap_append]
  simp
def RERel (w0 : World) (xb : Nat) (x : EvS) (A : Option Addr) (c : Nat) (g : Nat) (v4 v5 : Value) (wr : World) : Prop :=
  ∃ (i : Nat) (v : Value), i + g = x.keep.length ∧ v5 = .int .i64 i ∧ v = v4 ∧ Buf wr w0.heap.size v (evPre x [225] ++ leB (u64N x.keep.length) 8 ++ (x.keep.take i).flatMap keepB) ∧ Blk wr xb 49 (x.cells A c) ∧ Fr No w0 wr
def RefPutW (l : Bs) (e0 : Int) (w : World) (e : Ending) (w' : World) : Prop :=
  ∃ A c, e = .returned (.tuple #[.slice A l.length c, .int .i64 e0]) ∧ w'.ownsRow w.heap.size 5 1 (.slice A l.length c) l.length (enc8 l) ∧ Fr No w w'
set_option maxRecDepth 100000 in
set_option maxHeartbeats 4000000 in
theorem refPutEvent_any (x : EvS) (A : Option Addr) (c : Nat) (et : TypeId) (w : World) (hk : Sl w et 1 A x.keep.length (x.keep.flatMap fun x => [Value.int .i64 x])) (hm : x.keep.length ≤ maxLen) (hsz : x.name.size ≤ 140737488355328) :
    Calls Try.prog 26 #[.agg #[.int .i64 x.kind, .int .i64 x.n, .int .i64 x.code, .string x.name, .slice A x.keep.length c]] w (RefPutW (if evBad x then [] else evAll x) (if evBad x then 3 else 0) w) := by
  have HK := Lib.hid hk
  have hk0 : (0 : Int) ≤ (x.keep.length : Int) := by omega
  have hk1 : (x.keep.length : Int) ≤ 9223372036854775807 := by simp only [maxLen] at hm; omega
  have hs0 : (0 : Int) ≤ (x.name.size : Int) := by omega
  have HB0 := Lib.hid (Blk.new w 49 (x.cells A c))
  have HF0 := Lib.hid ((Fr.refl No w).alloc (Obj.cells (x.cells A c).toArray 49))
  have n0 := HB0.out.cell 0
  have n1 := HB0.out.cell 1
  have n2 := HB0.out.cell 2
  have n3 := HB0.out.cell 3
  have n4 := HB0.out.cell 4
  have n5 := HB0.out.lt
  simp only [List.getElem?_cons_zero, List.getElem?_cons_succ] at n0 n1 n2 n3 n4
  clear hk hm
  by_cases h1 : 255 < x.name.size
  · have hb : evBad x = true := by simp [evBad, longB, h1]
    rw [hb]
    have h1' : (255 : Int) < (x.name.size : Int) := by omega
    go_enter Try.func26, Try.ntmps26
    go_wp2
    go_ret2
    exact ⟨none, 0, by rfl, World.ownsRow_nil _ _ _ _, HF0.out⟩
  · by_cases h2 : 255 < x.keep.length
    · have hb : evBad x = true := by simp [evBad, h2]
      rw [hb]
      have h1' : ¬ (255 : Int) < (x.name.size : Int) := by omega
      have h2' : (255 : Int) < (x.keep.length : Int) := by omega
      go_enter Try.func26, Try.ntmps26
      go_wp2
      go_ret2
      exact ⟨none, 0, by rfl, World.ownsRow_nil _ _ _ _, HF0.out⟩
    · have hb : evBad x = false := by simp [evBad, longB, h1, h2]
      rw [hb]
      have h1' : ¬ (255 : Int) < (x.name.size : Int) := by omega
      have h2' : ¬ (255 : Int) < (x.keep.length : Int) := by omega
      have HN := Lib.hid (show x.name.size ≤ 255 ∧ x.keep.length ≤ 255 by omega)
      have hO := World.ownsRow_lit (base := w.heap.size) (e := 5) (size := 1) (w.alloc (Obj.cells (x.cells A c).toArray 49)) #[.int .u8 225] 1 HF0.out.size (by decide) rfl
      have HO1 : Hid (Buf ((w.alloc (Obj.cells (x.cells A c).toArray 49)).alloc (Obj.cells #[.int .u8 225] 5)) w.heap.size (.slice (some ⟨w.heap.size + 1, 0, none⟩) 1 1) [225]) := Lib.hid (by
        rw [show (w.alloc (Obj.cells (x.cells A c).toArray 49)).heap.size = w.heap.size + 1 by simp] at hO
        exact hO)
      have HF1 := Lib.hid (HF0.out.alloc (Obj.cells #[.int .u8 225] 5))
      have HB1 := Lib.hid (HB0.out.alloc (Obj.cells #[.int .u8 225] 5))
      clear h1 h2 hb hO hsz
      go_enter Try.func26, Try.ntmps26
      go_wp2_with (first
        | (go_at_call 61; refine (refNum_any w.heap.size _ ([225] ++ leB (u64N x.kind) 8 ++ leB (u64N x.n) 8 ++ leB (u64N x.code) 8 ++ textB x.name) (x.keep.length) _ HO_v5.out HF_v5.out.size (by (try simp only [List.length_append, leB_length, textB_length, List.length_cons, List.length_nil, evPre_length]); have := HN.out; omega)).mono ?_; rintro e w6 ⟨v6, rfl, ho_v6, hf_v6⟩; have HO_v6 := Lib.hid ho_v6; have B_v6 := Blk.u8 HB_v5.out hf_v6 (by decide); have HF_v6 := Lib.hid (U8.since HF_v5.out hf_v6); have n0 := B_v6.cell 0; have n1 := B_v6.cell 1; have n2 := B_v6.cell 2; have n3 := B_v6.cell 3; have n4 := B_v6.cell 4; have n5 := B_v6.lt; simp only [List.getElem?_cons_zero, List.getElem?_cons_succ] at n0 n1 n2 n3 n4; have HB_v6 := Lib.hid B_v6; clear ho_v6 hf_v6 B_v6)
        | (go_at_call 62; refine (refText_any w.heap.size _ ([225] ++ leB (u64N x.kind) 8 ++ leB (u64N x.n) 8 ++ leB (u64N x.code) 8) (x.name) _ HO_v4.out HF_v4.out.size (by (try simp only [List.length_append, leB_length, textB_length, List.length_cons, List.length_nil, evPre_length]); have := HN.out; omega)).mono ?_; rintro e w5 ⟨v5, rfl, ho_v5, hf_v5⟩; have HO_v5 := Lib.hid ho_v5; have B_v5 := Blk.u8 HB_v4.out hf_v5 (by decide); have HF_v5 := Lib.hid (U8.since HF_v4.out hf_v5); have n0 := B_v5.cell 0; have n1 := B_v5.cell 1; have n2 := B_v5.cell 2; have n3 := B_v5.cell 3; have n4 := B_v5.cell 4; have n5 := B_v5.lt; simp only [List.getElem?_cons_zero, List.getElem?_cons_succ] at n0 n1 n2 n3 n4; have HB_v5 := Lib.hid B_v5; clear ho_v5 hf_v5 B_v5)
        | (go_at_call 61; refine (refNum_any w.heap.size _ ([225] ++ leB (u64N x.kind) 8 ++ leB (u64N x.n) 8) (x.code) _ HO_v3.out HF_v3.out.size (by (try simp only [List.length_append, leB_length, textB_length, List.length_cons, List.length_nil, evPre_length]); have := HN.out; omega)).mono ?_; rintro e w4 ⟨v4, rfl, ho_v4, hf_v4⟩; have HO_v4 := Lib.hid ho_v4; have B_v4 := Blk.u8 HB_v3.out hf_v4 (by decide); have HF_v4 := Lib.hid (U8.since HF_v3.out hf_v4); have n0 := B_v4.cell 0; have n1 := B_v4.cell 1; have n2 := B_v4.cell 2; have n3 := B_v4.cell 3; have n4 := B_v4.cell 4; have n5 := B_v4.lt; simp only [List.getElem?_cons_zero, List.getElem?_cons_succ] at n0 n1 n2 n3 n4; have HB_v4 := Lib.hid B_v4; clear ho_v4 hf_v4 B_v4)
        | (go_at_call 61; refine (refNum_any w.heap.size _ ([225] ++ leB (u64N x.kind) 8) (x.n) _ HO_v2.out HF_v2.out.size (by (try simp only [List.length_append, leB_length, textB_length, List.length_cons, List.length_nil, evPre_length]); have := HN.out; omega)).mono ?_; rintro e w3 ⟨v3, rfl, ho_v3, hf_v3⟩; have HO_v3 := Lib.hid ho_v3; have B_v3 := Blk.u8 HB_v2.out hf_v3 (by decide); have HF_v3 := Lib.hid (U8.since HF_v2.out hf_v3); have n0 := B_v3.cell 0; have n1 := B_v3.cell 1; have n2 := B_v3.cell 2; have n3 := B_v3.cell 3; have n4 := B_v3.cell 4; have n5 := B_v3.lt; simp only [List.getElem?_cons_zero, List.getElem?_cons_succ] at n0 n1 n2 n3 n4; have HB_v3 := Lib.hid B_v3; clear ho_v3 hf_v3 B_v3)
        | (go_at_call 61; refine (refNum_any w.heap.size _ ([225]) (x.kind) _ HO1.out HF1.out.size (by (try simp only [List.length_append, leB_length, textB_length, List.length_cons, List.length_nil, evPre_length]); have := HN.out; omega)).mono ?_; rintro e w2 ⟨v2, rfl, ho_v2, hf_v2⟩; have HO_v2 := Lib.hid ho_v2; have B_v2 := Blk.u8 HB1.out hf_v2 (by decide); have HF_v2 := Lib.hid (U8.since HF1.out hf_v2); have n0 := B_v2.cell 0; have n1 := B_v2.cell 1; have n2 := B_v2.cell 2; have n3 := B_v2.cell 3; have n4 := B_v2.cell 4; have n5 := B_v2.lt; simp only [List.getElem?_cons_zero, List.getElem?_cons_succ] at n0 n1 n2 n3 n4; have HB_v2 := Lib.hid B_v2; clear ho_v2 hf_v2 B_v2))
      have hl6 : [225] ++ leB (u64N x.kind) 8 ++ leB (u64N x.n) 8 ++ leB (u64N x.code) 8 ++ textB x.name ++ leB (u64N x.keep.length) 8 = evPre x [225] ++ leB (u64N x.keep.length) 8 := by rw [evPre_flat]
      have HO6 : Hid (Buf w6 w.heap.size v6 (evPre x [225] ++ leB (u64N x.keep.length) 8)) := Lib.hid (by rw [← hl6]; exact HO_v6.out)
      clear hl6 HO_v2 HO_v3 HO_v4 HO_v5 HO_v6 HF_v2 HF_v3 HF_v4 HF_v5 HB_v2 HB_v3 HB_v4 HB_v5
      go_loopg [4, 5] x.keep.length (fun g v4 v5 wr => RERel w w.heap.size x A c g v4 v5 wr)
      case atStart => exact ⟨0, v6, by omega, rfl, rfl, by simpa using HO6.out, HB_v6.out, HF_v6.out⟩
      case round =>
        clear HO6 HB_v6 HF_v6 n0 n1 n2 n3 n4 n5
        obtain ⟨i, u, hgi, rfl, rfl, ho, hb, hf⟩ := hrel
        have HO := Lib.hid ho
        have HB := Lib.hid hb
        have HF := Lib.hid hf
        have n4 := hb.cell 4
        have n5 := hb.lt
        simp only [List.getElem?_cons_zero, List.getElem?_cons_succ] at n4
        have hi0 : (0 : Int) ≤ (i : Int) := by omega
        clear ho hb hf
        by_cases hi : i < x.keep.length
        · have hi1 : (i : Int) < (x.keep.length : Int) := by omega
          obtain ⟨y, hy⟩ : ∃ y, x.keep[i]? = some y := ⟨_, List.getElem?_eq_getElem hi⟩
          obtain ⟨g, oo, rfl, hg1, k0⟩ := int_at (HK.out.fr0 HF.out) hy
          have HT := Lib.hid (take_flat keepB hy)
          have HLE := Lib.hid (show (evPre x [225] ++ leB (u64N x.keep.length) 8 ++ (x.keep.take i).flatMap keepB).length ≤ 150000000000000 by
            simp only [List.length_append, evPre_length, leB_length, keep_length, List.length_take, List.length_cons, List.length_nil]
            have := HN.out
            omega)
          clear hy
          go_wp2_with (go_at_call 61; refine (refNum_any w.heap.size u _ y _ HO.out HF.out.size HLE.out).mono ?_; rintro e w7 ⟨v7, rfl, ho7, hf7⟩; have HO7 := Lib.hid ho7; have HB7 := Lib.hid (HB.out.u8 hf7 (by decide)); have HF7 := Lib.hid (U8.since HF.out hf7); clear ho7 hf7)
          go_roundg (x.keep.length - (i + 1))
          case measure => omega
          case rel => exact ⟨i + 1, v7, by omega, by go_num, rfl, by rw [HT.out, ← List.append_assoc]; exact HO7.out, HB7.out, HF7.out⟩
        · have hi1 : (x.keep.length : Int) ≤ (i : Int) := by omega
          obtain rfl : i = x.keep.length := by omega
          have hO := HO.out
          rw [List.take_length] at hO
          change Buf wr w.heap.size u (evAll x) at hO
          obtain ⟨A8, c8, rfl, _⟩ := own_shape hO
          have HO8 := Lib.hid hO
          clear hO
          go_wp2
          go_ret2
          exact ⟨A8, c8, by rfl, HO8.out, HF.out⟩
end Go.Proofs.Ytegogggemmcgdaa

/- codec: an event, a state, read. -/
namespace Go.Proofs.Ytegogggemmcgdaa
open Go Go.RowKit Go.Proofs

def evS (s : RS) : RS × EvS :=
  let a := numS s 0
  let b := numS a.1 0
  let c := numS b.1 0
  let d := textS c.1 ⟨#[]⟩ 255
  let e := listS (fun s => numS s 0) d.1 255
  (e.1, ⟨a.2, b.2, c.2, d.2, e.2⟩)
def stS (s : RS) : RS × (ByteArray × StS) :=
  let t := textS s ⟨#[]⟩ 8192
  let a := numS t.1 0
  let b := numS a.1 0
  let c := numS b.1 0
  let d := numS c.1 0
  let e := listS jobS d.1 4096
  let f := listS condS e.1 4096
  let g := listS resS f.1 4096
  let h := listS heldS g.1 4096
  (h.1, t.2, ⟨a.2, b.2, c.2, d.2, e.2, f.2, g.2, h.2⟩)
theorem own_keep {w w' : World} {base base' n size p xb : Nat} {e t : TypeId} {v : Value} {xs cs : List Value} {s : RS} (h : w.ownsRow base e size v n xs) (hp : PipeR w p base' s) (he : 109 ≠ e) (hB : Blk w xb t cs) (ht : t ≠ e) (hf : Fr2 p xb w w') : w'.ownsRow base e size v n xs := by
  obtain ⟨pc, hpc⟩ := hp.blk
  exact own_fr h hf (fun k hk hS => by
    rcases hS with e | e
    · exact own_far h hpc he k hk e
    · exact own_far h hB ht k hk e)
set_option maxRecDepth 100000 in
set_option maxHeartbeats 4000000 in
theorem eventOf_r (p base xb : Nat) (s : RS) (w : World) (h : PipeR w p base s) (hp : base ≤ p) (hb : base ≤ xb) (hB : Blk w xb 49 [.int .i64 0, .int .i64 0, .int .i64 0, .string ⟨#[]⟩, .slice none 0 0]) :
    Calls Try.prog 59 #[.pointer (some ⟨p, 0, none⟩), .pointer (some ⟨xb, 0, none⟩)] w fun e w' => (∃ u, e = .returned u) ∧ PipeR w' p base (evS s).1 ∧ (∃ A c, Blk w' xb 49 ((evS s).2.cells A c) ∧ w'.ownsRow w.heap.size 3 1 (.slice A (evS s).2.keep.length c) (evS s).2.keep.length ((evS s).2.keep.flatMap fun x => [Value.int .i64 x])) ∧ Fr2 p xb w w' := by
  have H := Lib.hid h
  have HB := Lib.hid hB
  have hxp := h.ne hB (by decide)
  have HF : Hid (Fr2 p xb w w) := Lib.hid (Fr.refl _ w)
  clear h hB
  go_enter Try.func59, Try.ntmps59
  go_wp2_with (first
    | (go_at_call 94; refine (numR_int p base xb 0 s _ _ _ _ H.out hp hb HB.out rfl hxp).mono ?_; rintro e w1 ⟨⟨u_w1, rfl⟩, hp_a, hb_a, hf_a⟩; obtain ⟨a, h_a⟩ : ∃ x, x = numS s 0 := ⟨_, rfl⟩; rw [← h_a] at hp_a hb_a; (try simp only [List.set_cons_zero, List.set_cons_succ] at hb_a); have HP_a := Lib.hid hp_a; have HB_a := Lib.hid hb_a; have HF_a := Lib.hid (Fr2.trans HF.out hf_a); have HE_a := Lib.hid h_a; clear hp_a hb_a hf_a h_a))
  refine wp_region_o [(0, 0), (1, 0), (2, 0), (3, 0), (4, 0), (5, 0), (6, 0), (7, 2), (8, 3)] (by kernel_rfl) (by kernel_rfl) ?_
  repeat (first
    | (apply wpO_pure rfl rfl; (focus (intro w'; go_simp; (try rfl); done)); try simp only [Act.put, List.setIfInBounds_toArray, List.set_cons_zero, List.set_cons_succ])
    | (apply wpO_read rfl rfl; (focus (intro w' hf' hs'; (try simp only [World.size_drew, World.cell?_drew, World.size_alloc, World.size_setCell] at hs'); go_simp; (try rfl); done)); try simp only [Act.put, List.setIfInBounds_toArray, List.set_cons_zero, List.set_cons_succ])
    | (apply wpO_skip (by decide) rfl rfl; try simp only [Act.put, List.setIfInBounds_toArray, List.set_cons_zero, List.set_cons_succ]))
  refine wpO_loudE rfl fun K hK => ?_
  go_simp
  refine hK _ _ ⟨by (repeat (first | exact Fr.refl _ _ | assumption | refine Fr.drew ?_ | refine Fr.alloc ?_ _ | refine Fr.drewL ?_)), ?_⟩
  clear hK K
  repeat (first
    | (apply wpO_pure rfl rfl; (focus (intro w'; go_simp; (try rfl); done)); try simp only [Act.put, List.setIfInBounds_toArray, List.set_cons_zero, List.set_cons_succ])
    | (apply wpO_read rfl rfl; (focus (intro w' hf' hs'; (try simp only [World.size_drew, World.cell?_drew, World.size_alloc, World.size_setCell] at hs'); go_simp; (try rfl); done)); try simp only [Act.put, List.setIfInBounds_toArray, List.set_cons_zero, List.set_cons_succ])
    | (apply wpO_skip (by decide) rfl rfl; try simp only [Act.put, List.setIfInBounds_toArray, List.set_cons_zero, List.set_cons_succ]))
  have F7 := ((Fr.refl No w1).alloc (Obj.cells ([1, 2].map fun o => ptrV (xb, o)).toArray 160)).drew
  have G7 := (Blk.new w1 160 ([1, 2].map fun o => ptrV (xb, o))).drew
  have S7 := HB_a.out.fr F7 (fun h => h)
  have hgp : w1.heap.size ≠ p := by have := (PipeR.cells HP_a.out).2.2.1; omega
  have hgx : w1.heap.size ≠ xb := by have := HB_a.out.lt; omega
  refine wpO_loud rfl fun K hK => ?_
  go_simp
  refine (numsR_any p base xb w1.heap.size 2 a.1 _ _ _ [1, 2] [0, 0] _ (HP_a.out.fr0 F7) hp hb S7 hxp G7 hgp hgx rfl (by decide) (at2 rfl rfl) (by decide)).mono ?_
  rintro e w3 ⟨⟨u3, rfl⟩, hp3, hb3, hf3⟩
  refine hK _ _ ?_
  clear hK K
  rw [numsS_2] at hp3 hb3
  simp only [setAll, List.set_cons_zero, List.set_cons_succ] at hb3
  obtain ⟨b, h_b⟩ : ∃ x, x = numS a.1 0 := ⟨_, rfl⟩
  rw [← h_b] at hp3 hb3
  obtain ⟨c, h_c⟩ : ∃ x, x = numS b.1 0 := ⟨_, rfl⟩
  rw [← h_c] at hp3 hb3
  have HP_c := Lib.hid hp3
  have HB_c := Lib.hid hb3
  have HF_c := Lib.hid (Fr2.trans HF_a.out (Fr2.trans (F7.any _) hf3))
  have HE_b := Lib.hid h_b
  have HE_c := Lib.hid h_c
  clear hp3 hb3 hf3 F7 G7 S7 h_b h_c
  repeat (first
    | (apply wpO_pure rfl rfl; (focus (intro w'; go_simp; (try rfl); done)); try simp only [Act.put, List.setIfInBounds_toArray, List.set_cons_zero, List.set_cons_succ])
    | (apply wpO_read rfl rfl; (focus (intro w' hf' hs'; (try simp only [World.size_drew, World.cell?_drew, World.size_alloc, World.size_setCell] at hs'); go_simp; (try rfl); done)); try simp only [Act.put, List.setIfInBounds_toArray, List.set_cons_zero, List.set_cons_succ])
    | (apply wpO_skip (by decide) rfl rfl; try simp only [Act.put, List.setIfInBounds_toArray, List.set_cons_zero, List.set_cons_succ]))
  refine wpO_nil ?_
  go_wp2_with (first
    | (go_at_call 97; go_loud (refine (listR_int (fun s => numS s 0) p base xb 4 d.1 _ _ 255 _ HP_d.out hp hb HB_d.out rfl hxp (by decide) (by decide) (intOf_partR p base hp)).mono ?_); rintro e w5 ⟨⟨u5, rfl⟩, hp5, ⟨v5, hb5, ho5⟩, hf5⟩; obtain ⟨A5, c5, rfl, _⟩ := own_shape ho5; have HP5 := Lib.hid hp5; have HB5 := Lib.hid hb5; have HO5 := Lib.hid ho5; have HF5 := Lib.hid (Fr2.trans HF_d.out hf5); clear hp5 hb5 ho5 hf5)
    | (go_at_call 96; refine (textR_any p base xb 3 c.1 _ _ _ 255 _ HP_c.out hp hb HB_c.out rfl hxp).mono ?_; rintro e w4 ⟨⟨u_w4, rfl⟩, hp_d, hb_d, hf_d⟩; obtain ⟨d, h_d⟩ : ∃ x, x = textS c.1 ⟨#[]⟩ 255 := ⟨_, rfl⟩; rw [← h_d] at hp_d hb_d; (try simp only [List.set_cons_zero, List.set_cons_succ] at hb_d); have HP_d := Lib.hid hp_d; have HB_d := Lib.hid hb_d; have HF_d := Lib.hid (Fr2.trans HF_c.out hf_d); have HE_d := Lib.hid h_d; clear hp_d hb_d hf_d h_d))
  refine bodyPost_end (v := .tuple #[]) (by simp [results, Try.results59, go_sem]) rfl ⟨⟨_, rfl⟩, ?_⟩
  have h1 := HE_a.out
  have h2 := HE_b.out
  have h3 := HE_c.out
  have h4 := HE_d.out
  subst h4
  subst h3
  subst h2
  subst h1
  exact ⟨HP5.out, ⟨A5, c5, HB5.out, own_mono HO5.out HF_d.out.size⟩, HF5.out⟩
/-- a state that is read, in memory: its rows are new -/
structure StOwn (w : World) (base : Nat) (x : StS) (A0 A1 A2 A3 : Option Addr) (c0 c1 c2 c3 : Nat) : Prop where
  jobs : w.ownsRow base 119 10 (.slice A0 x.jobs.length c0) x.jobs.length (x.jobs.flatMap JSt.vals)
  conds : w.ownsRow base 131 2 (.slice A1 x.conds.length c1) x.conds.length (x.conds.flatMap CondS.vals)
  res : w.ownsRow base 122 3 (.slice A2 x.res.length c2) x.res.length (x.res.flatMap ResS.vals)
  held : w.ownsRow base 125 4 (.slice A3 x.held.length c3) x.held.length (x.held.flatMap HeldS.vals)
def Fr3 (p b c : Nat) (w w' : World) : Prop := Fr (fun i => i = p ∨ i = b ∨ i = c) w w'
theorem Fr3.l {p b c : Nat} {w w' : World} (h : Fr2 p b w w') : Fr3 p b c w w' := h.mono fun _ _ e => by rcases e with e | e; exact .inl e; exact .inr (.inl e)
theorem Fr3.r {p b c : Nat} {w w' w2 : World} (h0 : Fr3 p b c w w') (h : Fr2 p c w' w2) : Fr3 p b c w w2 := h0.trans (h.mono fun _ _ e => by rcases e with e | e; exact .inl e; exact .inr (.inr e))
set_option maxRecDepth 100000 in
set_option maxHeartbeats 4000000 in
theorem stateOf_r (p base sb xb : Nat) (s : RS) (w : World) (h : PipeR w p base s) (hp : base ≤ p) (hbs : base ≤ sb) (hb : base ≤ xb) (hB0 : Blk w sb 9 [.string ⟨#[]⟩]) (hB : Blk w xb 67 [.int .i64 0, .int .i64 0, .int .i64 0, .int .i64 0, .slice none 0 0, .slice none 0 0, .slice none 0 0, .slice none 0 0]) :
    Calls Try.prog 65 #[.pointer (some ⟨p, 0, none⟩), .pointer (some ⟨sb, 0, none⟩), .pointer (some ⟨xb, 0, none⟩)] w fun e w' => (∃ u, e = .returned u) ∧ PipeR w' p base (stS s).1 ∧ Blk w' sb 9 [.string (stS s).2.1] ∧ (∃ A0 A1 A2 A3 c0 c1 c2 c3, Blk w' xb 67 ((stS s).2.2.cells A0 A1 A2 A3 c0 c1 c2 c3) ∧ StOwn w' w.heap.size (stS s).2.2 A0 A1 A2 A3 c0 c1 c2 c3) ∧ Fr3 p sb xb w w' := by
  have H := Lib.hid h
  have HB0 := Lib.hid hB0
  have HB := Lib.hid hB
  have hxp := h.ne hB (by decide)
  have hsp := h.ne hB0 (by decide)
  have hsx := hB0.ne_ hB (by decide)
  have hxs : xb ≠ sb := fun e => hsx e.symm
  clear h hB hB0
  go_enter Try.func65, Try.ntmps65
  go_wp2_with (first
    | (go_at_call 96; refine (textR_any p base sb 0 s _ _ _ 8192 _ H.out hp hbs HB0.out rfl hsp).mono ?_; rintro e w1 ⟨⟨u_w1, rfl⟩, hp_t, hb_t, hf_t⟩; obtain ⟨t, h_t⟩ : ∃ x, x = textS s ⟨#[]⟩ 8192 := ⟨_, rfl⟩; rw [← h_t] at hp_t hb_t; simp only [List.set_cons_zero] at hb_t; have HP_t := Lib.hid hp_t; have HT_t := Lib.hid hb_t; have HB_t := Lib.hid (HB.out.fr hf_t (fun hk => by rcases hk with e | e; exact hxp e; exact hxs e)); have HF_t := Lib.hid (Fr3.l (c := xb) hf_t); have HE_t := Lib.hid h_t; clear hp_t hb_t hf_t h_t))
  refine wp_region_o [(0, 0), (1, 0), (2, 0), (3, 0), (4, 0), (5, 0), (6, 0), (7, 0), (8, 0), (9, 0), (10, 0), (11, 0), (12, 0), (13, 2), (14, 3)] (by kernel_rfl) (by kernel_rfl) ?_
  repeat (first
    | (apply wpO_pure rfl rfl; (focus (intro w'; go_simp; (try rfl); done)); try simp only [Act.put, List.setIfInBounds_toArray, List.set_cons_zero, List.set_cons_succ])
    | (apply wpO_read rfl rfl; (focus (intro w' hf' hs'; (try simp only [World.size_drew, World.cell?_drew, World.size_alloc, World.size_setCell] at hs'); go_simp; (try rfl); done)); try simp only [Act.put, List.setIfInBounds_toArray, List.set_cons_zero, List.set_cons_succ])
    | (apply wpO_skip (by decide) rfl rfl; try simp only [Act.put, List.setIfInBounds_toArray, List.set_cons_zero, List.set_cons_succ]))
  refine wpO_loudE rfl fun K hK => ?_
  go_simp
  refine hK _ _ ⟨by (repeat (first | exact Fr.refl _ _ | assumption | refine Fr.drew ?_ | refine Fr.alloc ?_ _ | refine Fr.drewL ?_)), ?_⟩
  clear hK K
  repeat (first
    | (apply wpO_pure rfl rfl; (focus (intro w'; go_simp; (try rfl); done)); try simp only [Act.put, List.setIfInBounds_toArray, List.set_cons_zero, List.set_cons_succ])
    | (apply wpO_read rfl rfl; (focus (intro w' hf' hs'; (try simp only [World.size_drew, World.cell?_drew, World.size_alloc, World.size_setCell] at hs'); go_simp; (try rfl); done)); try simp only [Act.put, List.setIfInBounds_toArray, List.set_cons_zero, List.set_cons_succ])
    | (apply wpO_skip (by decide) rfl rfl; try simp only [Act.put, List.setIfInBounds_toArray, List.set_cons_zero, List.set_cons_succ]))
  have F7 := ((Fr.refl No w1).alloc (Obj.cells ([0, 1, 2, 3].map fun o => ptrV (xb, o)).toArray 160)).drew
  have G7 := (Blk.new w1 160 ([0, 1, 2, 3].map fun o => ptrV (xb, o))).drew
  have S7 := HB_t.out.fr F7 (fun h => h)
  have T7 := HT_t.out.fr F7 (fun h => h)
  have hgp : w1.heap.size ≠ p := by have := (PipeR.cells HP_t.out).2.2.1; omega
  have hgx : w1.heap.size ≠ xb := by have := HB_t.out.lt; omega
  refine wpO_loud rfl fun K hK => ?_
  go_simp
  refine (numsR_any p base xb w1.heap.size 4 t.1 _ _ _ [0, 1, 2, 3] [0, 0, 0, 0] _ (HP_t.out.fr0 F7) hp hb S7 hxp G7 hgp hgx rfl (by decide) (at4 rfl rfl rfl rfl) (by decide)).mono ?_
  rintro e w3 ⟨⟨u3, rfl⟩, hp3, hb3, hf3⟩
  refine hK _ _ ?_
  clear hK K
  rw [numsS_4] at hp3 hb3
  simp only [setAll, List.set_cons_zero, List.set_cons_succ] at hb3
  obtain ⟨a, h_a⟩ : ∃ x, x = numS t.1 0 := ⟨_, rfl⟩
  rw [← h_a] at hp3 hb3
  obtain ⟨b, h_b⟩ : ∃ x, x = numS a.1 0 := ⟨_, rfl⟩
  rw [← h_b] at hp3 hb3
  obtain ⟨c, h_c⟩ : ∃ x, x = numS b.1 0 := ⟨_, rfl⟩
  rw [← h_c] at hp3 hb3
  obtain ⟨d, h_d⟩ : ∃ x, x = numS c.1 0 := ⟨_, rfl⟩
  rw [← h_d] at hp3 hb3
  have HP_d := Lib.hid hp3
  have HB_d := Lib.hid hb3
  have HF_d := Lib.hid (Fr3.r HF_t.out (Fr2.trans (F7.any _) hf3))
  have HT_d := Lib.hid (T7.fr hf3 (fun hk => by rcases hk with e | e; exact hsp e; exact hsx e))
  have HE_a := Lib.hid h_a
  have HE_b := Lib.hid h_b
  have HE_c := Lib.hid h_c
  have HE_d := Lib.hid h_d
  clear hp3 hb3 hf3 F7 G7 S7 T7 h_a h_b h_c h_d
  repeat (first
    | (apply wpO_pure rfl rfl; (focus (intro w'; go_simp; (try rfl); done)); try simp only [Act.put, List.setIfInBounds_toArray, List.set_cons_zero, List.set_cons_succ])
    | (apply wpO_read rfl rfl; (focus (intro w' hf' hs'; (try simp only [World.size_drew, World.cell?_drew, World.size_alloc, World.size_setCell] at hs'); go_simp; (try rfl); done)); try simp only [Act.put, List.setIfInBounds_toArray, List.set_cons_zero, List.set_cons_succ])
    | (apply wpO_skip (by decide) rfl rfl; try simp only [Act.put, List.setIfInBounds_toArray, List.set_cons_zero, List.set_cons_succ]))
  refine wpO_nil ?_
  go_wp2_with (first
    | (go_at_call 105; go_loud (refine (listR_held heldS p base xb 7 g.1 _ _ 4096 _ HP_g.out hp hb HB_g.out rfl hxp (by decide) (by decide) (heldOf_partR p base hp)).mono ?_); rintro e w7 ⟨⟨u_w7, rfl⟩, hp_h, ⟨v_h, hb_h, ho_h⟩, hf_h⟩; obtain ⟨h, h_h⟩ : ∃ x, x = listS heldS g.1 4096 := ⟨_, rfl⟩; rw [show listS heldS g.1 ((4096 : Nat) : Int) = h from h_h.symm] at hp_h ho_h; obtain ⟨A_h, c_h, rfl, _⟩ := own_shape ho_h; simp only [List.set_cons_zero, List.set_cons_succ] at hb_h; have HP_h := Lib.hid hp_h; have HB_h := Lib.hid hb_h; have HO_h := Lib.hid (own_mono ho_h HF_g.out.size); have HT_h := Lib.hid (HT_g.out.fr hf_h (fun hk => by rcases hk with e | e; exact hsp e; exact hsx e)); have HF_h := Lib.hid (Fr3.r HF_g.out hf_h); have HG_h := Lib.hid hf_h; have HE_h := Lib.hid h_h; clear hp_h hb_h ho_h hf_h h_h; have HU_h := Lib.hid (own_keep HU_g.out HP_g.out (by decide) HB_g.out (by decide) HG_h.out); have HV_h := Lib.hid (own_keep HV_g.out HP_g.out (by decide) HB_g.out (by decide) HG_h.out); have HW_h := Lib.hid (own_keep HO_g.out HP_g.out (by decide) HB_g.out (by decide) HG_h.out))
    | (go_at_call 103; go_loud (refine (listR_res resS p base xb 6 f.1 _ _ 4096 _ HP_f.out hp hb HB_f.out rfl hxp (by decide) (by decide) (resOf_partR p base hp)).mono ?_); rintro e w6 ⟨⟨u_w6, rfl⟩, hp_g, ⟨v_g, hb_g, ho_g⟩, hf_g⟩; obtain ⟨g, h_g⟩ : ∃ x, x = listS resS f.1 4096 := ⟨_, rfl⟩; rw [show listS resS f.1 ((4096 : Nat) : Int) = g from h_g.symm] at hp_g ho_g; obtain ⟨A_g, c_g, rfl, _⟩ := own_shape ho_g; simp only [List.set_cons_zero, List.set_cons_succ] at hb_g; have HP_g := Lib.hid hp_g; have HB_g := Lib.hid hb_g; have HO_g := Lib.hid (own_mono ho_g HF_f.out.size); have HT_g := Lib.hid (HT_f.out.fr hf_g (fun hk => by rcases hk with e | e; exact hsp e; exact hsx e)); have HF_g := Lib.hid (Fr3.r HF_f.out hf_g); have HG_g := Lib.hid hf_g; have HE_g := Lib.hid h_g; clear hp_g hb_g ho_g hf_g h_g; have HU_g := Lib.hid (own_keep HU_f.out HP_f.out (by decide) HB_f.out (by decide) HG_g.out); have HV_g := Lib.hid (own_keep HO_f.out HP_f.out (by decide) HB_f.out (by decide) HG_g.out))
    | (go_at_call 101; go_loud (refine (listR_cond condS p base xb 5 e.1 _ _ 4096 _ HP_e.out hp hb HB_e.out rfl hxp (by decide) (by decide) (condOf_partR p base hp)).mono ?_); rintro e w5 ⟨⟨u_w5, rfl⟩, hp_f, ⟨v_f, hb_f, ho_f⟩, hf_f⟩; obtain ⟨f, h_f⟩ : ∃ x, x = listS condS e.1 4096 := ⟨_, rfl⟩; rw [show listS condS e.1 ((4096 : Nat) : Int) = f from h_f.symm] at hp_f ho_f; obtain ⟨A_f, c_f, rfl, _⟩ := own_shape ho_f; simp only [List.set_cons_zero, List.set_cons_succ] at hb_f; have HP_f := Lib.hid hp_f; have HB_f := Lib.hid hb_f; have HO_f := Lib.hid (own_mono ho_f HF_e.out.size); have HT_f := Lib.hid (HT_e.out.fr hf_f (fun hk => by rcases hk with e | e; exact hsp e; exact hsx e)); have HF_f := Lib.hid (Fr3.r HF_e.out hf_f); have HG_f := Lib.hid hf_f; have HE_f := Lib.hid h_f; clear hp_f hb_f ho_f hf_f h_f; have HU_f := Lib.hid (own_keep HO_e.out HP_e.out (by decide) HB_e.out (by decide) HG_f.out))
    | (go_at_call 99; go_loud (refine (listR_job jobS p base xb 4 d.1 _ _ 4096 _ HP_d.out hp hb HB_d.out rfl hxp (by decide) (by decide) (jobOf_partR p base hp)).mono ?_); rintro e w4 ⟨⟨u_w4, rfl⟩, hp_e, ⟨v_e, hb_e, ho_e⟩, hf_e⟩; obtain ⟨e, h_e⟩ : ∃ x, x = listS jobS d.1 4096 := ⟨_, rfl⟩; rw [show listS jobS d.1 ((4096 : Nat) : Int) = e from h_e.symm] at hp_e ho_e; obtain ⟨A_e, c_e, rfl, _⟩ := own_shape ho_e; simp only [List.set_cons_zero, List.set_cons_succ] at hb_e; have HP_e := Lib.hid hp_e; have HB_e := Lib.hid hb_e; have HO_e := Lib.hid (own_mono ho_e HF_d.out.size); have HT_e := Lib.hid (HT_d.out.fr hf_e (fun hk => by rcases hk with e | e; exact hsp e; exact hsx e)); have HF_e := Lib.hid (Fr3.r HF_d.out hf_e); have HG_e := Lib.hid hf_e; have HE_e := Lib.hid h_e; clear hp_e hb_e ho_e hf_e h_e))
  refine bodyPost_end (v := .tuple #[]) (by simp [results, Try.results65, go_sem]) rfl ⟨⟨_, rfl⟩, ?_⟩
  have ht := HE_t.out
  have h1 := HE_a.out
  have h2 := HE_b.out
  have h3 := HE_c.out
  have h4 := HE_d.out
  have h5 := HE_e.out
  have h6 := HE_f.out
  have h7 := HE_g.out
  have h8 := HE_h.out
  subst h8
  subst h7
  subst h6
  subst h5
  subst h4
  subst h3
  subst h2
  subst h1
  subst ht
  exact ⟨HP_h.out, HT_h.out, ⟨_, _, _, _, _, _, _, _, HB_h.out, ⟨HU_h.out, HV_h.out, HW_h.out, HO_h.out⟩⟩, HF_h.out⟩
attribute [irreducible] evS stS
end Go.Proofs.Ytegogggemmcgdaa

/- codec: open, over. -/
namespace Go.Proofs.Ytegogggemmcgdaa
open Go Go.RowKit Go.Proofs

def openS (b0 : UInt8) (r : Bs) (k : UInt8) : RS := (decide (b0 ≠ k) || decide (60000 < r.length + 1), r)
set_option maxRecDepth 100000 in
set_option maxHeartbeats 1000000 in
theorem open_none (A : Option Addr) (c : Nat) (k : Int) (w : World) : Calls Try.prog 63 #[.slice A 0 c, .int .u8 k] w fun e w' => w' = w ∧ e = .returned (.tuple #[.pointer none, .int .i64 10]) := by
  go_enter Try.func63, Try.ntmps63
  go_wp2
  go_ret2
  exact ⟨rfl, rfl⟩
set_option maxRecDepth 100000 in
set_option maxHeartbeats 4000000 in
theorem open_some (A : Option Addr) (c : Nat) (e : TypeId) (l : Bs) (b0 : UInt8) (r : Bs) (k : UInt8) (base : Nat) (w : World) (hl : l = b0 :: r) (hs : Sl w e 1 A l.length (enc8 l)) (hA : ∀ a, A = some a → a.block < base) (hc : l.length ≤ c) (hm : l.length ≤ maxLen) :
    Calls Try.prog 63 #[.slice A l.length c, .int .u8 (k.toNat : Int)] w fun e w' => e = .returned (.tuple #[.pointer (some ⟨w.heap.size, 0, none⟩), .int .i64 0]) ∧ PipeR w' w.heap.size base (openS b0 r k) ∧ Fr No w w' := by
  have hpos : 0 < l.length := by rw [hl]; simp
  obtain ⟨g, o, hAg⟩ := some_of' hs hpos
  subst hAg
  have k0 := at8_cell hs rfl 0 hpos
  rw [Nat.add_zero, at8_def, show l.getD 0 0 = b0 by rw [hl]; rfl] at k0
  have kg := sl_lt hs hpos
  have hs2 : ∀ w, (Instr.slice 50 (.slice (some ⟨g, o, none⟩) l.length c) (some (.int .i64 1)) none none).run Try.prog w = .ok (.slice (cutA (some ⟨g, o, none⟩) 1 c) r.length (c - 1)) w := fun w => by
    have := slice_l (A := some ⟨g, o, none⟩) (n := l.length) (c := c) .i64 1 (by omega) w
    rw [show l.length - 1 = r.length by rw [hl]; simp] at this
    exact this
  have hS2 := sl_cut hs (lo := 1) (hi := l.length) (c := c) (by omega) (Nat.le_refl _) hc
  have HS2 : Hid (Sl w e 1 (cutA (some ⟨g, o, none⟩) 1 c) r.length (enc8 r)) := Lib.hid (by subst hl; simpa using hS2)
  obtain ⟨A5, hA5⟩ : ∃ A5, A5 = cutA (some ⟨g, o, none⟩) 1 c := ⟨_, rfl⟩
  have HA5 : Hid (∀ a, A5 = some a → a.block < base) := Lib.hid (by rw [hA5]; exact cutA_under hA)
  rw [← hA5] at hs2 HS2
  have HRL := Lib.hid (show l.length = r.length + 1 by rw [hl]; rfl)
  have HC := Lib.hid hc
  have HM := Lib.hid hm
  have hl0 : (0 : Int) < (l.length : Int) := by omega
  have hlz : ((l.length : Int) == 0) = false := by rw [beq_eq_false_iff_ne]; omega
  have hk0 : (b0 == k) = ((b0.toNat : Int) == (k.toNat : Int)) := by
    by_cases h : b0 = k
    · subst h; simp
    · have h2 : (b0 == k) = false := by simpa using h
      rw [h2]
      symm
      rw [beq_eq_false_iff_ne]
      intro h3
      exact h (UInt8.toNat_inj.1 (by omega))
  have hl6 : l ≠ [] := by rw [hl]; simp
  clear hs hA hc hm hl hS2 hA5
  by_cases hk : b0 = k
  · subst hk
    by_cases hb : 60000 < l.length
    · have hb1 : (60000 : Int) < (l.length : Int) := by omega
      have HX := Lib.hid (show (decide (b0 ≠ b0) || decide (60000 < r.length + 1)) = true by have := HRL.out; simp; omega)
      clear hb hk0
      go_enter Try.func63, Try.ntmps63
      go_wp2
      refine wp_region_o [(0, 0), (1, 0), (2, 0), (3, 0), (4, 1), (5, 0), (6, 0), (7, 0), (8, 0), (9, 0), (10, 0), (11, 0), (12, 0), (13, 2), (14, 0), (15, 0)] (by kernel_rfl) (by kernel_rfl) ?_
      repeat (first
        | (apply wpO_pure rfl rfl; (focus (intro w'; go_simp; (try rfl); done)); try simp only [Act.put, List.setIfInBounds_toArray, List.set_cons_zero, List.set_cons_succ])
        | (apply wpO_read rfl rfl; (focus (intro w' hf' hs'; (try simp only [World.size_drew, World.cell?_drew, World.size_alloc, World.size_setCell] at hs'); go_simp; (try rfl); done)); try simp only [Act.put, List.setIfInBounds_toArray, List.set_cons_zero, List.set_cons_succ])
        | (apply wpO_skip (by decide) rfl rfl; try simp only [Act.put, List.setIfInBounds_toArray, List.set_cons_zero, List.set_cons_succ]))
      refine wpO_loudE rfl fun K hK => ?_
      go_simp
      refine hK _ _ ⟨by (repeat (first | exact Fr.refl _ _ | assumption | refine Fr.drew ?_ | refine Fr.alloc ?_ _ | refine Fr.drewL ?_)), ?_⟩
      clear hK K
      repeat (first
        | (apply wpO_pure rfl rfl; (focus (intro w'; go_simp; (try rfl); done)); try simp only [Act.put, List.setIfInBounds_toArray, List.set_cons_zero, List.set_cons_succ])
        | (apply wpO_read rfl rfl; (focus (intro w' hf' hs'; (try simp only [World.size_drew, World.cell?_drew, World.size_alloc, World.size_setCell] at hs'); go_simp; (try rfl); done)); try simp only [Act.put, List.setIfInBounds_toArray, List.set_cons_zero, List.set_cons_succ])
        | (apply wpO_skip (by decide) rfl rfl; try simp only [Act.put, List.setIfInBounds_toArray, List.set_cons_zero, List.set_cons_succ]))
      refine wpO_nil ?_
      go_wp2
      go_ret2
      refine ⟨rfl, ?_, by first | exact ((Fr.refl No w).alloc _).drew | exact (Fr.refl No w).drew.alloc _ | exact ((Fr.refl No w).alloc _).drew.drew⟩
      (try rw [hd1])
      unfold openS
      rw [HX.out]
      exact ⟨A5, c - 1, e, Blk.new w 109 [.slice A5 r.length (c - 1), .bool false, .bool true], HS2.out.fr0 ((Fr.refl No w).alloc (Obj.cells #[.slice A5 r.length (c - 1), .bool false, .bool true] 109)).drew, HA5.out, by show r.length ≤ c - 1; have := HC.out; have := HRL.out; omega, by show r.length ≤ maxLen; have := HM.out; have := HRL.out; omega⟩
    · have hb1 : ¬ (60000 : Int) < (l.length : Int) := by omega
      have HX := Lib.hid (show (decide (b0 ≠ b0) || decide (60000 < r.length + 1)) = false by have := HRL.out; simp; omega)
      have hd1 : decide ((60000 : Int) < (l.length : Int)) = false := decide_eq_false hb1
      clear hb hk0
      go_enter Try.func63, Try.ntmps63
      go_wp2
      refine wp_region_o [(0, 0), (1, 0), (2, 0), (3, 0), (4, 1), (5, 0), (6, 0), (7, 0), (8, 0), (9, 0), (10, 0), (11, 0), (12, 0), (13, 2), (14, 0), (15, 0)] (by kernel_rfl) (by kernel_rfl) ?_
      repeat (first
        | (apply wpO_pure rfl rfl; (focus (intro w'; go_simp; (try rfl); done)); try simp only [Act.put, List.setIfInBounds_toArray, List.set_cons_zero, List.set_cons_succ])
        | (apply wpO_read rfl rfl; (focus (intro w' hf' hs'; (try simp only [World.size_drew, World.cell?_drew, World.size_alloc, World.size_setCell] at hs'); go_simp; (try rfl); done)); try simp only [Act.put, List.setIfInBounds_toArray, List.set_cons_zero, List.set_cons_succ])
        | (apply wpO_skip (by decide) rfl rfl; try simp only [Act.put, List.setIfInBounds_toArray, List.set_cons_zero, List.set_cons_succ]))
      refine wpO_loudE rfl fun K hK => ?_
      go_simp
      refine hK _ _ ⟨by (repeat (first | exact Fr.refl _ _ | assumption | refine Fr.drew ?_ | refine Fr.alloc ?_ _ | refine Fr.drewL ?_)), ?_⟩
      clear hK K
      repeat (first
        | (apply wpO_pure rfl rfl; (focus (intro w'; go_simp; (try rfl); done)); try simp only [Act.put, List.setIfInBounds_toArray, List.set_cons_zero, List.set_cons_succ])
        | (apply wpO_read rfl rfl; (focus (intro w' hf' hs'; (try simp only [World.size_drew, World.cell?_drew, World.size_alloc, World.size_setCell] at hs'); go_simp; (try rfl); done)); try simp only [Act.put, List.setIfInBounds_toArray, List.set_cons_zero, List.set_cons_succ])
        | (apply wpO_skip (by decide) rfl rfl; try simp only [Act.put, List.setIfInBounds_toArray, List.set_cons_zero, List.set_cons_succ]))
      refine wpO_nil ?_
      go_wp2
      go_ret2
      refine ⟨rfl, ?_, by first | exact ((Fr.refl No w).alloc _).drew | exact (Fr.refl No w).drew.alloc _ | exact ((Fr.refl No w).alloc _).drew.drew⟩
      (try rw [hd1])
      unfold openS
      rw [HX.out]
      exact ⟨A5, c - 1, e, Blk.new w 109 [.slice A5 r.length (c - 1), .bool false, .bool false], HS2.out.fr0 ((Fr.refl No w).alloc (Obj.cells #[.slice A5 r.length (c - 1), .bool false, .bool false] 109)).drew, HA5.out, by show r.length ≤ c - 1; have := HC.out; have := HRL.out; omega, by show r.length ≤ maxLen; have := HM.out; have := HRL.out; omega⟩
  · have hk1 : ((b0.toNat : Int) == (k.toNat : Int)) = false := by rw [← hk0]; simpa using hk
    have HX := Lib.hid (show (decide (b0 ≠ k) || decide (60000 < r.length + 1)) = true by simp [hk])
    have hk2 : ¬ b0.toNat = k.toNat := fun e => hk (UInt8.toNat_inj.1 e)
    have hk3 : ¬ (b0.toNat : Int) = (k.toNat : Int) := fun e => hk2 (by omega)
    have hk4 : ((b0.toNat : Int) != (k.toNat : Int)) = true := by simp only [bne, hk1, Bool.not_false]
    clear hk0
    go_enter Try.func63, Try.ntmps63
    go_wp2
    refine wp_region_o [(0, 0), (1, 0), (2, 0), (3, 0), (4, 1), (5, 0), (6, 0), (7, 0), (8, 0), (9, 0), (10, 0), (11, 0), (12, 0), (13, 2), (14, 0), (15, 0)] (by kernel_rfl) (by kernel_rfl) ?_
    repeat (first
      | (apply wpO_pure rfl rfl; (focus (intro w'; go_simp; (try rfl); done)); try simp only [Act.put, List.setIfInBounds_toArray, List.set_cons_zero, List.set_cons_succ])
      | (apply wpO_read rfl rfl; (focus (intro w' hf' hs'; (try simp only [World.size_drew, World.cell?_drew, World.size_alloc, World.size_setCell] at hs'); go_simp; (try rfl); done)); try simp only [Act.put, List.setIfInBounds_toArray, List.set_cons_zero, List.set_cons_succ])
      | (apply wpO_skip (by decide) rfl rfl; try simp only [Act.put, List.setIfInBounds_toArray, List.set_cons_zero, List.set_cons_succ]))
    refine wpO_loudE rfl fun K hK => ?_
    go_simp
    refine hK _ _ ⟨by (repeat (first | exact Fr.refl _ _ | assumption | refine Fr.drew ?_ | refine Fr.alloc ?_ _ | refine Fr.drewL ?_)), ?_⟩
    clear hK K
    repeat (first
      | (apply wpO_pure rfl rfl; (focus (intro w'; go_simp; (try rfl); done)); try simp only [Act.put, List.setIfInBounds_toArray, List.set_cons_zero, List.set_cons_succ])
      | (apply wpO_read rfl rfl; (focus (intro w' hf' hs'; (try simp only [World.size_drew, World.cell?_drew, World.size_alloc, World.size_setCell] at hs'); go_simp; (try rfl); done)); try simp only [Act.put, List.setIfInBounds_toArray, List.set_cons_zero, List.set_cons_succ])
      | (apply wpO_skip (by decide) rfl rfl; try simp only [Act.put, List.setIfInBounds_toArray, List.set_cons_zero, List.set_cons_succ]))
    refine wpO_nil ?_
    go_wp2
    go_ret2
    refine ⟨rfl, ?_, by first | exact ((Fr.refl No w).alloc _).drew | exact (Fr.refl No w).drew.alloc _ | exact ((Fr.refl No w).alloc _).drew.drew⟩
    (try rw [hd1])
    unfold openS
    rw [HX.out]
    exact ⟨A5, c - 1, e, Blk.new w 109 [.slice A5 r.length (c - 1), .bool false, .bool true], HS2.out.fr0 ((Fr.refl No w).alloc (Obj.cells #[.slice A5 r.length (c - 1), .bool false, .bool true] 109)).drew, HA5.out, by show r.length ≤ c - 1; have := HC.out; have := HRL.out; omega, by show r.length ≤ maxLen; have := HM.out; have := HRL.out; omega⟩
set_option maxRecDepth 100000 in
set_option maxHeartbeats 1000000 in
theorem over_any (p base : Nat) (s : RS) (w : World) (h : PipeR w p base s) : Calls Try.prog 64 #[.pointer (some ⟨p, 0, none⟩)] w fun e w' => w' = w ∧ e = .returned (.bool (!s.1 && s.2.isEmpty)) := by
  obtain ⟨bd, r⟩ := s
  obtain ⟨A, c, e, hB, _⟩ := h
  simp only at hB
  have c0 := hB.cell 0
  have c2 := hB.cell 2
  have c4 := hB.lt
  simp only [List.getElem?_cons_zero, List.getElem?_cons_succ] at c0 c2
  clear hB
  cases bd
  · cases r with
    | nil =>
      go_enter Try.func64, Try.ntmps64
      go_wp2
      go_ret
      exact ⟨rfl, rfl⟩
    | cons x r =>
      have hlz : ((((x :: r) : Bs).length : Int) == 0) = false := by rw [beq_eq_false_iff_ne]; simp only [List.length_cons]; omega
      generalize hn : (x :: r).length = n at c0 hlz
      clear hn
      go_enter Try.func64, Try.ntmps64
      go_wp2
      go_ret
      exact ⟨rfl, rfl⟩
  · go_enter Try.func64, Try.ntmps64
    go_wp2
    go_ret
    exact ⟨rfl, rfl⟩
attribute [irreducible] openS
theorem open_at (A : Option Addr) (c : Nat) (e : TypeId) (l : Bs) (b0 : UInt8) (r : Bs) (k : UInt8) (kk : Int) (hk : kk = (k.toNat : Int)) (base : Nat) (w : World) (hl : l = b0 :: r) (hs : Sl w e 1 A l.length (enc8 l)) (hA : ∀ a, A = some a → a.block < base) (hc : l.length ≤ c) (hm : l.length ≤ maxLen) :
    Calls Try.prog 63 #[.slice A l.length c, .int .u8 kk] w fun e w' => e = .returned (.tuple #[.pointer (some ⟨w.heap.size, 0, none⟩), .int .i64 0]) ∧ PipeR w' w.heap.size base (openS b0 r k) ∧ Fr No w w' := by
  rw [hk]
  exact open_some A c e l b0 r k base w hl hs hA hc hm
end Go.Proofs.Ytegogggemmcgdaa

/- codec: GetEvent, GetState. -/
namespace Go.Proofs.Ytegogggemmcgdaa
open Go Go.RowKit Go.Proofs

abbrev set5v (w : World) (g : Nat) (a0 a1 a2 a3 a4 : Value) : World :=
  ((((w.setCell ⟨g, 0, none⟩ a0).setCell ⟨g, 1, none⟩ a1).setCell ⟨g, 2, none⟩ a2).setCell ⟨g, 3, none⟩ a3).setCell ⟨g, 4, none⟩ a4
abbrev set8v (w : World) (g : Nat) (a0 a1 a2 a3 a4 a5 a6 a7 : Value) : World :=
  ((((((((w.setCell ⟨g, 0, none⟩ a0).setCell ⟨g, 1, none⟩ a1).setCell ⟨g, 2, none⟩ a2).setCell ⟨g, 3, none⟩ a3).setCell ⟨g, 4, none⟩ a4).setCell ⟨g, 5, none⟩ a5).setCell ⟨g, 6, none⟩ a6).setCell ⟨g, 7, none⟩ a7)
theorem Blk.set5v {w : World} {g : Nat} {t : TypeId} {b0 b1 b2 b3 b4 : Value} (h : Blk w g t [b0, b1, b2, b3, b4]) (a0 a1 a2 a3 a4 : Value) : Blk (set5v w g a0 a1 a2 a3 a4) g t [a0, a1, a2, a3, a4] :=
  ((((h.set_ 0 a0).set_ 1 a1).set_ 2 a2).set_ 3 a3).set_ 4 a4
theorem Blk.set8v {w : World} {g : Nat} {t : TypeId} {b0 b1 b2 b3 b4 b5 b6 b7 : Value} (h : Blk w g t [b0, b1, b2, b3, b4, b5, b6, b7]) (a0 a1 a2 a3 a4 a5 a6 a7 : Value) : Blk (set8v w g a0 a1 a2 a3 a4 a5 a6 a7) g t [a0, a1, a2, a3, a4, a5, a6, a7] :=
  (((((((h.set_ 0 a0).set_ 1 a1).set_ 2 a2).set_ 3 a3).set_ 4 a4).set_ 5 a5).set_ 6 a6).set_ 7 a7
theorem Fr.set5v {S : Nat → Prop} {a w : World} {g : Nat} (h : Fr S a w) (hg : S g ∨ a.heap.size ≤ g) (a0 a1 a2 a3 a4 : Value) : Fr S a (set5v w g a0 a1 a2 a3 a4) :=
  ((((h.setCell (p := ⟨g, 0, none⟩) hg _).setCell (p := ⟨g, 1, none⟩) hg _).setCell (p := ⟨g, 2, none⟩) hg _).setCell (p := ⟨g, 3, none⟩) hg _).setCell (p := ⟨g, 4, none⟩) hg _
theorem Fr.set8v {S : Nat → Prop} {a w : World} {g : Nat} (h : Fr S a w) (hg : S g ∨ a.heap.size ≤ g) (a0 a1 a2 a3 a4 a5 a6 a7 : Value) : Fr S a (set8v w g a0 a1 a2 a3 a4 a5 a6 a7) :=
  (((((((h.setCell (p := ⟨g, 0, none⟩) hg _).setCell (p := ⟨g, 1, none⟩) hg _).setCell (p := ⟨g, 2, none⟩) hg _).setCell (p := ⟨g, 3, none⟩) hg _).setCell (p := ⟨g, 4, none⟩) hg _).setCell (p := ⟨g, 5, none⟩) hg _).setCell (p := ⟨g, 6, none⟩) hg _).setCell (p := ⟨g, 7, none⟩) hg _
theorem Blk.cells5 {w : World} {g : Nat} {t : TypeId} {a0 a1 a2 a3 a4 : Value} (h : Blk w g t [a0, a1, a2, a3, a4]) :
    w.cell? ⟨g, 0, none⟩ = some a0 ∧ w.cell? ⟨g, 1, none⟩ = some a1 ∧ w.cell? ⟨g, 2, none⟩ = some a2 ∧ w.cell? ⟨g, 3, none⟩ = some a3 ∧ w.cell? ⟨g, 4, none⟩ = some a4 :=
  ⟨h.cell 0, h.cell 1, h.cell 2, h.cell 3, h.cell 4⟩
abbrev EvS.zero : EvS := ⟨0, 0, 0, ⟨#[]⟩, []⟩
abbrev EvS.agg (x : EvS) (A : Option Addr) (c : Nat) : Value := .agg #[.int .i64 x.kind, .int .i64 x.n, .int .i64 x.code, .string x.name, .slice A x.keep.length c]
def fin (s : RS) : Bool := !s.1 && s.2.isEmpty
theorem fin_def (s : RS) : (!s.1 && s.2.isEmpty) = fin s := rfl
/-- what the program reads out of bytes: an event and an error -/
def getEvS : Bs → EvS × Int
  | [] => (EvS.zero, 10)
  | b0 :: r => if fin (evS (openS b0 r 225)).1 then ((evS (openS b0 r 225)).2, 0) else (EvS.zero, 11)
theorem getEvS_cons (b0 : UInt8) (r : Bs) : getEvS (b0 :: r) = if fin (evS (openS b0 r 225)).1 then ((evS (openS b0 r 225)).2, 0) else (EvS.zero, 11) := rfl
def GetEvW (x : EvS × Int) (w : World) (e : Ending) (w' : World) : Prop :=
  ∃ A c, e = .returned (.tuple #[x.1.agg A c, .int .i64 x.2]) ∧ w'.ownsRow w.heap.size 3 1 (.slice A x.1.keep.length c) x.1.keep.length (x.1.keep.flatMap fun x => [Value.int .i64 x]) ∧ Fr No w w'
theorem getEvS_nil : getEvS [] = (EvS.zero, 10) := rfl
attribute [irreducible] getEvS fin
theorem gev_res {tmps : Array Value} {w : World} {g : Nat} {x : EvS} {A : Option Addr} {c : Nat} {e : Int} (h : Blk w g 49 (x.cells A c)) (h4 : tmps.getD 2 undef = .pointer (some ⟨g, 0, none⟩)) (h5 : tmps.getD 3 undef = .int .i64 e) :
    (results Try.f29 tmps).run Try.prog w = .ok (.tuple #[x.agg A c, .int .i64 e]) w := by
  obtain ⟨r0, r1, r2, r3, r4⟩ := h.cells5
  simp only [Array.getD_eq_getD_getElem?] at h4 h5
  simp [results, Try.results29, go_sem, h4, h5, r0, r1, r2, r3, r4]
/-- bytes that come in -/
structure BsIn (w : World) (A : Option Addr) (c : Nat) (e : TypeId) (l : Bs) : Prop where
  sl : Sl w e 1 A l.length (enc8 l)
  below : ∀ a, A = some a → a.block < w.heap.size
  cap : l.length ≤ c
  most : l.length ≤ maxLen
set_option maxRecDepth 100000 in
set_option maxHeartbeats 1000000 in
theorem getEvent_any (A : Option Addr) (c : Nat) (e : TypeId) (l : Bs) (w : World) (h : BsIn w A c e l) :
    Calls Try.prog 29 #[.slice A l.length c] w (GetEvW (getEvS l) w) := by
  cases hl : l with
  | nil =>
    have HB := Lib.hid (Blk.new w 49 [.int .i64 0, .int .i64 0, .int .i64 0, .string ⟨#[]⟩, .slice none 0 0])
    have HF := Lib.hid ((Fr.refl No w).alloc (Obj.cells #[.int .i64 0, .int .i64 0, .int .i64 0, .string ⟨#[]⟩, .slice none 0 0] 49))
    obtain ⟨r0, r1, r2, r3, r4⟩ := HB.out.cells5
    have hfz := HB.out.frozens
    have lG := HB.out.lt
    have e0 := getEvS_nil
    rw [e0]
    clear h e0 hl
    go_enter Try.func29, Try.ntmps29
    go_wp2_with (first | (go_at_call 63; go_loud (refine (open_none A c 225 _).mono ?_); rintro e w1 ⟨hw1, rfl⟩; obtain rfl := hw1.symm))
    exact bodyPost_ret (gev_res (x := EvS.zero) (A := none) (c := 0) (e := 10) HB.out rfl rfl) rfl ⟨none, 0, rfl, World.ownsRow_nil _ _ _ _, HF.out⟩
  | cons b0 r =>
    rw [← hl]
    obtain ⟨x, hx⟩ : ∃ x, x = evS (openS b0 r 225) := ⟨_, rfl⟩
    have e0 : getEvS l = if fin x.1 then (x.2, 0) else (EvS.zero, 11) := by rw [hl, hx]; exact getEvS_cons b0 r
    rw [e0]
    have HX := Lib.hid hx.symm
    clear hx e0
    cases hov : fin x.1
    · simp only [Bool.false_eq_true, if_false]
      have HS := Lib.hid h.sl
      have HA := Lib.hid h.below
      have HC := Lib.hid h.cap
      have HM := Lib.hid h.most
      have HB := Lib.hid (Blk.new w 49 [.int .i64 0, .int .i64 0, .int .i64 0, .string ⟨#[]⟩, .slice none 0 0])
      have HF := Lib.hid ((Fr.refl No w).alloc (Obj.cells #[.int .i64 0, .int .i64 0, .int .i64 0, .string ⟨#[]⟩, .slice none 0 0] 49))
      obtain ⟨r0, r1, r2, r3, r4⟩ := HB.out.cells5
      have hfz := HB.out.frozens
      have lG := HB.out.lt
      have ho := open_at A c e l b0 r 225 225 (by decide) w.heap.size _ hl (HS.out.fr0 HF.out) HA.out HC.out HM.out
      rw [show (w.alloc (Obj.cells #[.int .i64 0, .int .i64 0, .int .i64 0, .string ⟨#[]⟩, .slice none 0 0] 49)).heap.size = w.heap.size + 1 by simp] at ho
      have HOP := Lib.hid ho
      clear ho h hl
      go_enter Try.func29, Try.ntmps29
      go_wp2_with (first
        | (go_at_call 64; go_loud (refine (over_any (w.heap.size + 1) w.heap.size x.1 _ HP2.out).mono ?_); rintro e w3 ⟨hw3, rfl⟩; obtain rfl := hw3.symm; rw [fin_def, hov])
        | (go_at_call 59; go_loud (refine (eventOf_r (w.heap.size + 1) w.heap.size w1.heap.size (openS b0 r 225) _ (HP1.out.fr0 ((Fr.refl No w1).alloc _)) (Nat.le_succ _) HF1.out.size (Blk.new w1 49 [.int .i64 0, .int .i64 0, .int .i64 0, .string ⟨#[]⟩, .slice none 0 0])).mono ?_); rintro e w2 ⟨⟨u2, rfl⟩, hp2, ⟨A2, c2, hb2, ho2⟩, hf2⟩; rw [HX.out] at hp2 hb2 ho2; have HP2 := Lib.hid hp2; have HB2 := Lib.hid hb2; have HO2 := Lib.hid (own_mono ho2 (show w.heap.size ≤ _ by simp only [World.size_alloc]; have := HF1.out.size; omega)); have HR2 := Lib.hid ((HB1.out.alloc _).fr hf2 (fun hk => by rcases hk with e | e; omega; have := HB1.out.lt; omega)); have HF2 := Lib.hid (Fr.step (S := No) (HF1.out.alloc (Obj.cells #[.int .i64 0, .int .i64 0, .int .i64 0, .string ⟨#[]⟩, .slice none 0 0] 49)) hf2 (fun k hk => .inr (by have := HF1.out.size; rcases hk with e | e <;> omega))); obtain ⟨s0, s1, s2, s3, s4⟩ := hb2.cells5; obtain ⟨t0, t1, t2, t3, t4⟩ := HR2.out.cells5; have ls := hb2.lt; have lr := HR2.out.lt; have frz := HR2.out.frozens; clear hp2 hb2 ho2 hf2)
        | (go_at_call 63; go_loud (refine HOP.out.mono ?_); rintro e w1 ⟨rfl, hp1, hf1⟩; have HP1 := Lib.hid hp1; have HF1 := Lib.hid (HF.out.trans hf1); have HB1 := Lib.hid (HB.out.fr hf1 (fun h => h)); clear hp1 hf1 r0 r1 r2 r3 r4 hfz lG))
      exact bodyPost_ret (gev_res (x := EvS.zero) (A := none) (c := 0) (e := 11) (HR2.out.set5v _ _ _ _ _) rfl rfl) rfl ⟨none, 0, rfl, World.ownsRow_nil _ _ _ _, HF2.out.set5v (.inr (Nat.le_refl _)) _ _ _ _ _⟩
    · simp only [if_true]
      have HS := Lib.hid h.sl
      have HA := Lib.hid h.below
      have HC := Lib.hid h.cap
      have HM := Lib.hid h.most
      have HB := Lib.hid (Blk.new w 49 [.int .i64 0, .int .i64 0, .int .i64 0, .string ⟨#[]⟩, .slice none 0 0])
      have HF := Lib.hid ((Fr.refl No w).alloc (Obj.cells #[.int .i64 0, .int .i64 0, .int .i64 0, .string ⟨#[]⟩, .slice none 0 0] 49))
      obtain ⟨r0, r1, r2, r3, r4⟩ := HB.out.cells5
      have hfz := HB.out.frozens
      have lG := HB.out.lt
      have ho := open_at A c e l b0 r 225 225 (by decide) w.heap.size _ hl (HS.out.fr0 HF.out) HA.out HC.out HM.out
      rw [show (w.alloc (Obj.cells #[.int .i64 0, .int .i64 0, .int .i64 0, .string ⟨#[]⟩, .slice none 0 0] 49)).heap.size = w.heap.size + 1 by simp] at ho
      have HOP := Lib.hid ho
      clear ho h hl
      go_enter Try.func29, Try.ntmps29
      go_wp2_with (first
        | (go_at_call 64; go_loud (refine (over_any (w.heap.size + 1) w.heap.size x.1 _ HP2.out).mono ?_); rintro e w3 ⟨hw3, rfl⟩; obtain rfl := hw3.symm; rw [fin_def, hov])
        | (go_at_call 59; go_loud (refine (eventOf_r (w.heap.size + 1) w.heap.size w1.heap.size (openS b0 r 225) _ (HP1.out.fr0 ((Fr.refl No w1).alloc _)) (Nat.le_succ _) HF1.out.size (Blk.new w1 49 [.int .i64 0, .int .i64 0, .int .i64 0, .string ⟨#[]⟩, .slice none 0 0])).mono ?_); rintro e w2 ⟨⟨u2, rfl⟩, hp2, ⟨A2, c2, hb2, ho2⟩, hf2⟩; rw [HX.out] at hp2 hb2 ho2; have HP2 := Lib.hid hp2; have HB2 := Lib.hid hb2; have HO2 := Lib.hid (own_mono ho2 (show w.heap.size ≤ _ by simp only [World.size_alloc]; have := HF1.out.size; omega)); have HR2 := Lib.hid ((HB1.out.alloc _).fr hf2 (fun hk => by rcases hk with e | e; omega; have := HB1.out.lt; omega)); have HF2 := Lib.hid (Fr.step (S := No) (HF1.out.alloc (Obj.cells #[.int .i64 0, .int .i64 0, .int .i64 0, .string ⟨#[]⟩, .slice none 0 0] 49)) hf2 (fun k hk => .inr (by have := HF1.out.size; rcases hk with e | e <;> omega))); obtain ⟨s0, s1, s2, s3, s4⟩ := hb2.cells5; obtain ⟨t0, t1, t2, t3, t4⟩ := HR2.out.cells5; have ls := hb2.lt; have lr := HR2.out.lt; have frz := HR2.out.frozens; clear hp2 hb2 ho2 hf2)
        | (go_at_call 63; go_loud (refine HOP.out.mono ?_); rintro e w1 ⟨rfl, hp1, hf1⟩; have HP1 := Lib.hid hp1; have HF1 := Lib.hid (HF.out.trans hf1); have HB1 := Lib.hid (HB.out.fr hf1 (fun h => h)); clear hp1 hf1 r0 r1 r2 r3 r4 hfz lG))
      exact bodyPost_ret (gev_res (x := x.2) (A := A2) (c := c2) (e := 0) (HR2.out.set5v _ _ _ _ _) rfl rfl) rfl ⟨A2, c2, rfl, own_fr HO2.out ((Fr.refl (fun k => k = w.heap.size) _).set5v (.inl rfl) _ _ _ _ _) (fun k hk e => own_far HO2.out HR2.out (by decide) k hk e), HF2.out.set5v (.inr (Nat.le_refl _)) _ _ _ _ _⟩
end Go.Proofs.Ytegogggemmcgdaa

/- codec: GetState. -/
namespace Go.Proofs.Ytegogggemmcgdaa
open Go Go.RowKit Go.Proofs

abbrev StS.zero : StS := ⟨0, 0, 0, 0, [], [], [], []⟩
abbrev StS.agg (x : StS) (A0 A1 A2 A3 : Option Addr) (c0 c1 c2 c3 : Nat) : Value := .agg #[.int .i64 x.clock, .int .i64 x.day, .int .i64 x.id, .int .i64 x.run, .slice A0 x.jobs.length c0, .slice A1 x.conds.length c1, .slice A2 x.res.length c2, .slice A3 x.held.length c3]
abbrev zeroSt : List Value := [.int .i64 0, .int .i64 0, .int .i64 0, .int .i64 0, .slice none 0 0, .slice none 0 0, .slice none 0 0, .slice none 0 0]
/-- what the program reads out of bytes: a source, a state, an error -/
def getStS : Bs → ByteArray × StS × Int
  | [] => (⟨#[]⟩, StS.zero, 10)
  | b0 :: r => if fin (stS (openS b0 r 87)).1 then ((stS (openS b0 r 87)).2.1, (stS (openS b0 r 87)).2.2, 0) else (⟨#[]⟩, StS.zero, 11)
theorem getStS_cons (b0 : UInt8) (r : Bs) : getStS (b0 :: r) = if fin (stS (openS b0 r 87)).1 then ((stS (openS b0 r 87)).2.1, (stS (openS b0 r 87)).2.2, 0) else (⟨#[]⟩, StS.zero, 11) := rfl
theorem getStS_nil : getStS [] = (⟨#[]⟩, StS.zero, 10) := rfl
def GetStW (x : ByteArray × StS × Int) (w : World) (e : Ending) (w' : World) : Prop :=
  ∃ A0 A1 A2 A3 c0 c1 c2 c3, e = .returned (.tuple #[.string x.1, x.2.1.agg A0 A1 A2 A3 c0 c1 c2 c3, .int .i64 x.2.2]) ∧ StOwn w' w.heap.size x.2.1 A0 A1 A2 A3 c0 c1 c2 c3 ∧ Fr No w w'
attribute [irreducible] getStS
theorem StOwn.nil (w : World) (base : Nat) : StOwn w base StS.zero none none none none 0 0 0 0 :=
  ⟨World.ownsRow_nil w _ _ _, World.ownsRow_nil w _ _ _, World.ownsRow_nil w _ _ _, World.ownsRow_nil w _ _ _⟩
theorem StOwn.mono {w : World} {base base' : Nat} {x : StS} {A0 A1 A2 A3 : Option Addr} {c0 c1 c2 c3 : Nat} (h : StOwn w base x A0 A1 A2 A3 c0 c1 c2 c3) (hb : base' ≤ base) : StOwn w base' x A0 A1 A2 A3 c0 c1 c2 c3 :=
  ⟨own_mono h.jobs hb, own_mono h.conds hb, own_mono h.res hb, own_mono h.held hb⟩
/-- a block of another kind changes -/
theorem StOwn.far {w w' : World} {base g : Nat} {x : StS} {A0 A1 A2 A3 : Option Addr} {c0 c1 c2 c3 : Nat} {t : TypeId} {cs : List Value} (h : StOwn w base x A0 A1 A2 A3 c0 c1 c2 c3) (hB : Blk w g t cs) (h0 : t ≠ 119) (h1 : t ≠ 131) (h2 : t ≠ 122) (h3 : t ≠ 125) (hf : Fr (fun k => k = g) w w') : StOwn w' base x A0 A1 A2 A3 c0 c1 c2 c3 :=
  ⟨own_fr h.jobs hf (fun k hk e => own_far h.jobs hB h0 k hk e), own_fr h.conds hf (fun k hk e => own_far h.conds hB h1 k hk e), own_fr h.res hf (fun k hk e => own_far h.res hB h2 k hk e), own_fr h.held hf (fun k hk e => own_far h.held hB h3 k hk e)⟩
theorem StOwn.fr0 {w w' : World} {base : Nat} {x : StS} {A0 A1 A2 A3 : Option Addr} {c0 c1 c2 c3 : Nat} (h : StOwn w base x A0 A1 A2 A3 c0 c1 c2 c3) (hf : Fr No w w') : StOwn w' base x A0 A1 A2 A3 c0 c1 c2 c3 :=
  ⟨own_fr0 h.jobs hf, own_fr0 h.conds hf, own_fr0 h.res hf, own_fr0 h.held hf⟩
theorem gst_res {tmps : Array Value} {w : World} {g : Nat} {s : ByteArray} {x : StS} {A0 A1 A2 A3 : Option Addr} {c0 c1 c2 c3 : Nat} {e : Int} (h : Blk w g 67 (x.cells A0 A1 A2 A3 c0 c1 c2 c3)) (h3 : tmps.getD 2 undef = .string s) (h4 : tmps.getD 3 undef = .pointer (some ⟨g, 0, none⟩)) (h5 : tmps.getD 4 undef = .int .i64 e) :
    (results Try.f35 tmps).run Try.prog w = .ok (.tuple #[.string s, x.agg A0 A1 A2 A3 c0 c1 c2 c3, .int .i64 e]) w := by
  obtain ⟨r0, r1, r2, r3, r4, r5, r6, r7⟩ := h.cells8
  simp only [Array.getD_eq_getD_getElem?] at h3 h4 h5
  simp [results, Try.results35, go_sem, h3, h4, h5, r0, r1, r2, r3, r4, r5, r6, r7]
set_option maxRecDepth 100000 in
set_option maxHeartbeats 1000000 in
theorem getState_any (A : Option Addr) (c : Nat) (e : TypeId) (l : Bs) (w : World) (h : BsIn w A c e l) :
    Calls Try.prog 35 #[.slice A l.length c] w (GetStW (getStS l) w) := by
  cases hl : l with
  | nil =>
    have HB := Lib.hid (Blk.new w 67 zeroSt)
    have HF := Lib.hid ((Fr.refl No w).alloc (Obj.cells (zeroSt).toArray 67))
    obtain ⟨r0, r1, r2, r3, r4, r5, r6, r7⟩ := HB.out.cells8
    have hfz := HB.out.frozens
    have lG := HB.out.lt
    rw [getStS_nil]
    clear h hl
    go_enter Try.func35, Try.ntmps35
    go_wp2_with (first | (go_at_call 63; go_loud (refine (open_none A c 87 _).mono ?_); rintro e w1 ⟨hw1, rfl⟩; obtain rfl := hw1.symm))
    exact bodyPost_ret (gst_res (x := StS.zero) (s := ⟨#[]⟩) (A0 := none) (A1 := none) (A2 := none) (A3 := none) (c0 := 0) (c1 := 0) (c2 := 0) (c3 := 0) (e := 10) HB.out rfl rfl rfl) rfl ⟨none, none, none, none, 0, 0, 0, 0, rfl, StOwn.nil _ _, HF.out⟩
  | cons b0 r =>
    rw [← hl]
    obtain ⟨x, hx⟩ : ∃ x, x = stS (openS b0 r 87) := ⟨_, rfl⟩
    have e0 : getStS l = if fin x.1 then (x.2.1, x.2.2, 0) else (⟨#[]⟩, StS.zero, 11) := by rw [hl, hx]; exact getStS_cons b0 r
    rw [e0]
    have HX := Lib.hid hx.symm
    clear hx e0
    cases hov : fin x.1
    · simp only [Bool.false_eq_true, if_false]
      have HS := Lib.hid h.sl
      have HA := Lib.hid h.below
      have HC := Lib.hid h.cap
      have HM := Lib.hid h.most
      have HB := Lib.hid (Blk.new w 67 zeroSt)
      have HF := Lib.hid ((Fr.refl No w).alloc (Obj.cells (zeroSt).toArray 67))
      obtain ⟨r0, r1, r2, r3, r4, r5, r6, r7⟩ := HB.out.cells8
      have hfz := HB.out.frozens
      have lG := HB.out.lt
      have ho := open_at A c e l b0 r 87 87 (by decide) w.heap.size _ hl (HS.out.fr0 HF.out) HA.out HC.out HM.out
      rw [show (w.alloc (Obj.cells (zeroSt).toArray 67)).heap.size = w.heap.size + 1 by simp] at ho
      have HOP := Lib.hid ho
      clear ho h hl
      go_enter Try.func35, Try.ntmps35
      go_wp2_with (first
        | (go_at_call 64; go_loud (refine (over_any (w.heap.size + 1) w.heap.size x.1 _ HP2.out).mono ?_); rintro e w3 ⟨hw3, rfl⟩; obtain rfl := hw3.symm; rw [fin_def, hov])
        | (go_at_call 65; go_loud (refine (stateOf_r (w.heap.size + 1) w.heap.size w1.heap.size (w1.heap.size + 1) (openS b0 r 87) _ ((HP1.out.fr0 ((Fr.refl No w1).alloc _)).fr0 ((Fr.refl No _).alloc _)) (Nat.le_succ _) HF1.out.size (Nat.le_trans HF1.out.size (Nat.le_succ _)) ((Blk.new w1 9 [.string ⟨#[]⟩]).alloc _) (by have := Blk.new (w1.alloc (Obj.cells #[.string ⟨#[]⟩] 9)) 67 zeroSt; rw [show (w1.alloc (Obj.cells #[.string ⟨#[]⟩] 9)).heap.size = w1.heap.size + 1 by simp] at this; exact this)).mono ?_); rintro e w2 ⟨⟨u2, rfl⟩, hp2, ht2, ⟨A0, A1, A2, A3, c0, c1, c2, c3, hb2, ho2⟩, hf2⟩; rw [HX.out] at hp2 hb2 ho2 ht2; have HP2 := Lib.hid hp2; have HO2 := Lib.hid (ho2.mono (show w.heap.size ≤ _ by simp only [World.size_alloc]; have := HF1.out.size; omega)); have HR2 := Lib.hid (((HB1.out.alloc _).alloc _).fr hf2 (fun hk => by have := HB1.out.lt; rcases hk with e | e | e <;> omega)); have HF2 := Lib.hid (Fr.step (S := No) ((HF1.out.alloc (Obj.cells #[.string ⟨#[]⟩] 9)).alloc (Obj.cells (zeroSt).toArray 67)) hf2 (fun k hk => .inr (by have := HF1.out.size; rcases hk with e | e | e <;> omega))); obtain ⟨s0, s1, s2, s3, s4, s5, s6, s7⟩ := hb2.cells8; obtain ⟨t0, t1, t2, t3, t4, t5, t6, t7⟩ := HR2.out.cells8; have s8 := ht2.cell 0; have ls := hb2.lt; have ls2 := ht2.lt; have lr := HR2.out.lt; have frz := HR2.out.frozens; simp only [List.getElem?_cons_zero] at s8; clear hp2 hb2 ho2 hf2 ht2)
        | (go_at_call 63; go_loud (refine HOP.out.mono ?_); rintro e w1 ⟨rfl, hp1, hf1⟩; have HP1 := Lib.hid hp1; have HF1 := Lib.hid (HF.out.trans hf1); have HB1 := Lib.hid (HB.out.fr hf1 (fun h => h)); clear hp1 hf1 r0 r1 r2 r3 r4 r5 r6 r7 hfz lG))
      exact bodyPost_ret (gst_res (x := StS.zero) (s := ⟨#[]⟩) (A0 := none) (A1 := none) (A2 := none) (A3 := none) (c0 := 0) (c1 := 0) (c2 := 0) (c3 := 0) (e := 11) (HR2.out.set8v _ _ _ _ _ _ _ _) rfl rfl rfl) rfl ⟨none, none, none, none, 0, 0, 0, 0, rfl, StOwn.nil _ _, HF2.out.set8v (.inr (Nat.le_refl _)) _ _ _ _ _ _ _ _⟩
    · simp only [if_true]
      have HS := Lib.hid h.sl
      have HA := Lib.hid h.below
      have HC := Lib.hid h.cap
      have HM := Lib.hid h.most
      have HB := Lib.hid (Blk.new w 67 zeroSt)
      have HF := Lib.hid ((Fr.refl No w).alloc (Obj.cells (zeroSt).toArray 67))
      obtain ⟨r0, r1, r2, r3, r4, r5, r6, r7⟩ := HB.out.cells8
      have hfz := HB.out.frozens
      have lG := HB.out.lt
      have ho := open_at A c e l b0 r 87 87 (by decide) w.heap.size _ hl (HS.out.fr0 HF.out) HA.out HC.out HM.out
      rw [show (w.alloc (Obj.cells (zeroSt).toArray 67)).heap.size = w.heap.size + 1 by simp] at ho
      have HOP := Lib.hid ho
      clear ho h hl
      go_enter Try.func35, Try.ntmps35
      go_wp2_with (first
        | (go_at_call 64; go_loud (refine (over_any (w.heap.size + 1) w.heap.size x.1 _ HP2.out).mono ?_); rintro e w3 ⟨hw3, rfl⟩; obtain rfl := hw3.symm; rw [fin_def, hov])
        | (go_at_call 65; go_loud (refine (stateOf_r (w.heap.size + 1) w.heap.size w1.heap.size (w1.heap.size + 1) (openS b0 r 87) _ ((HP1.out.fr0 ((Fr.refl No w1).alloc _)).fr0 ((Fr.refl No _).alloc _)) (Nat.le_succ _) HF1.out.size (Nat.le_trans HF1.out.size (Nat.le_succ _)) ((Blk.new w1 9 [.string ⟨#[]⟩]).alloc _) (by have := Blk.new (w1.alloc (Obj.cells #[.string ⟨#[]⟩] 9)) 67 zeroSt; rw [show (w1.alloc (Obj.cells #[.string ⟨#[]⟩] 9)).heap.size = w1.heap.size + 1 by simp] at this; exact this)).mono ?_); rintro e w2 ⟨⟨u2, rfl⟩, hp2, ht2, ⟨A0, A1, A2, A3, c0, c1, c2, c3, hb2, ho2⟩, hf2⟩; rw [HX.out] at hp2 hb2 ho2 ht2; have HP2 := Lib.hid hp2; have HO2 := Lib.hid (ho2.mono (show w.heap.size ≤ _ by simp only [World.size_alloc]; have := HF1.out.size; omega)); have HR2 := Lib.hid (((HB1.out.alloc _).alloc _).fr hf2 (fun hk => by have := HB1.out.lt; rcases hk with e | e | e <;> omega)); have HF2 := Lib.hid (Fr.step (S := No) ((HF1.out.alloc (Obj.cells #[.string ⟨#[]⟩] 9)).alloc (Obj.cells (zeroSt).toArray 67)) hf2 (fun k hk => .inr (by have := HF1.out.size; rcases hk with e | e | e <;> omega))); obtain ⟨s0, s1, s2, s3, s4, s5, s6, s7⟩ := hb2.cells8; obtain ⟨t0, t1, t2, t3, t4, t5, t6, t7⟩ := HR2.out.cells8; have s8 := ht2.cell 0; have ls := hb2.lt; have ls2 := ht2.lt; have lr := HR2.out.lt; have frz := HR2.out.frozens; simp only [List.getElem?_cons_zero] at s8; clear hp2 hb2 ho2 hf2 ht2)
        | (go_at_call 63; go_loud (refine HOP.out.mono ?_); rintro e w1 ⟨rfl, hp1, hf1⟩; have HP1 := Lib.hid hp1; have HF1 := Lib.hid (HF.out.trans hf1); have HB1 := Lib.hid (HB.out.fr hf1 (fun h => h)); clear hp1 hf1 r0 r1 r2 r3 r4 r5 r6 r7 hfz lG))
      refine wp_region_o [(0, 1), (1, 1), (2, 0), (3, 3), (4, 0)] (by kernel_rfl) (by kernel_rfl) ?_
      repeat (first
        | (apply wpO_pure rfl rfl; (focus (intro w'; go_simp; (try rfl); done)); try simp only [Act.put, List.setIfInBounds_toArray, List.set_cons_zero, List.set_cons_succ])
        | (apply wpO_read rfl rfl; (focus (intro w' hf' hs'; (try simp only [World.size_drew, World.cell?_drew, World.size_alloc, World.size_setCell] at hs'); go_simp; (try rfl); done)); try simp only [Act.put, List.setIfInBounds_toArray, List.set_cons_zero, List.set_cons_succ])
        | (apply wpO_skip (by decide) rfl rfl; try simp only [Act.put, List.setIfInBounds_toArray, List.set_cons_zero, List.set_cons_succ]))
      refine wpO_loud rfl fun K hK => ?_
      go_simp
      refine hK _ _ ?_
      clear hK K
      repeat (first
        | (apply wpO_pure rfl rfl; (focus (intro w'; go_simp; (try rfl); done)); try simp only [Act.put, List.setIfInBounds_toArray, List.set_cons_zero, List.set_cons_succ])
        | (apply wpO_read rfl rfl; (focus (intro w' hf' hs'; (try simp only [World.size_drew, World.cell?_drew, World.size_alloc, World.size_setCell] at hs'); go_simp; (try rfl); done)); try simp only [Act.put, List.setIfInBounds_toArray, List.set_cons_zero, List.set_cons_succ])
        | (apply wpO_skip (by decide) rfl rfl; try simp only [Act.put, List.setIfInBounds_toArray, List.set_cons_zero, List.set_cons_succ]))
      refine wpO_nil ?_
      go_wp2
      exact bodyPost_ret (gst_res (x := x.2.2) (s := x.2.1) (A0 := A0) (A1 := A1) (A2 := A2) (A3 := A3) (c0 := c0) (c1 := c1) (c2 := c2) (c3 := c3) (e := 0) (HR2.out.set8v _ _ _ _ _ _ _ _).drew rfl rfl rfl) rfl ⟨A0, A1, A2, A3, c0, c1, c2, c3, rfl, HO2.out.far HR2.out (by decide) (by decide) (by decide) (by decide) ((Fr.refl (fun k => k = w.heap.size) _).set8v (.inl rfl) _ _ _ _ _ _ _ _).drew, (HF2.out.set8v (.inr (Nat.le_refl _)) _ _ _ _ _ _ _ _).drew⟩
end Go.Proofs.Ytegogggemmcgdaa

/- the law's known calls. -/
namespace Go.Proofs.Ytegogggemmcgdaa
open Go Go.RowKit Go.Proofs

abbrev kEv : EvS := ⟨1, 5, 0, ⟨#[]⟩, []⟩
abbrev kSt : StS := ⟨7, 0, 0, 0, [], [], [], []⟩
def kB : Bs := [225, 1, 0, 0, 0, 0, 0, 0, 0, 5, 0, 0, 0, 0, 0, 0, 0, 0, 0, 0, 0, 0, 0, 0, 0, 0, 0, 0, 0, 0, 0, 0, 0, 0, 0, 0, 0, 0, 0, 0, 0]
def kC : Bs := [87, 1, 0, 0, 0, 0, 0, 0, 0, 120, 7, 0, 0, 0, 0, 0, 0, 0, 0, 0, 0, 0, 0, 0, 0, 0, 0, 0, 0, 0, 0, 0, 0, 0, 0, 0, 0, 0, 0, 0, 0, 0, 0, 0, 0, 0, 0, 0, 0, 0, 0, 0, 0, 0, 0, 0, 0, 0, 0, 0, 0, 0, 0, 0, 0, 0, 0, 0, 0, 0, 0, 0, 0, 0]
theorem kB_put : cutW (evW kEv [225]) = kB ∧ errW (evW kEv [225]) = 0 := ⟨by kernel_rfl, by kernel_rfl⟩
theorem kC_put : cutW (stW ⟨#[120]⟩ kSt [87]) = kC ∧ errW (stW ⟨#[120]⟩ kSt [87]) = 0 := ⟨by kernel_rfl, by kernel_rfl⟩
theorem kB_get : getEvS kB = (kEv, 0) := by kernel_rfl
theorem kC_get : getStS kC = (⟨#[120]⟩, kSt, 0) := by kernel_rfl
theorem BsIn.of_own {w : World} {base c : Nat} {A : Option Addr} {l : Bs} (h : w.ownsRow base 5 1 (.slice A l.length c) l.length (enc8 l)) : BsIn w A c 5 l := by
  refine ⟨Sl.of_own h, fun a ha => ?_, ?_, ?_⟩
  · subst ha
    have := (own_size h a.block rfl).2
    exact this
  · obtain ⟨A', c', hv, hc⟩ := own_shape h
    injection hv with h1 h2 h3
    omega
  · rcases h.2 with ⟨_, h0⟩ | ⟨g, cap, cur, _, _, _, h1, h2, _⟩
    · omega
    · omega
theorem BsIn.fr0 {w w' : World} {A : Option Addr} {c : Nat} {e : TypeId} {l : Bs} (h : BsIn w A c e l) (hf : Fr No w w') : BsIn w' A c e l :=
  ⟨h.sl.fr0 hf, fun a ha => Nat.lt_of_lt_of_le (h.below a ha) hf.size, h.cap, h.most⟩
theorem kPutB (w : World) : Calls Try.prog 25 #[.agg #[.int .i64 1, .int .i64 5, .int .i64 0, .string ⟨#[]⟩, .slice none 0 0]] w fun e w' => ∃ g o c, e = .returned (.tuple #[.slice (some ⟨g, o, none⟩) 41 c, .int .i64 0]) ∧ BsIn w' (some ⟨g, o, none⟩) c 5 kB ∧ g < w'.heap.size ∧ w'.cell? ⟨g, o, none⟩ = some (.int .u8 225) ∧ w'.cell? ⟨g, o + 9, none⟩ = some (.int .u8 5) ∧ Fr No w w' := by
  refine (putEvent_any kEv none 0 3 w (Sl.nil w _ _ _) (by decide) (by decide)).mono ?_
  rintro e w' ⟨A, c, rfl, ho, hf⟩
  rw [kB_put.1] at ho
  have hb := BsIn.of_own ho
  obtain ⟨g, o, hAg⟩ := some_of' hb.sl (by decide)
  subst hAg
  have k0 := at8_cell hb.sl rfl 0 (by decide)
  have k9 := at8_cell hb.sl rfl 9 (by decide)
  rw [at8_def] at k0 k9
  exact ⟨g, o, c, by rw [kB_put.1, kB_put.2]; rfl, hb, sl_lt hb.sl (by decide), k0, k9, hf⟩
theorem kPutC (w : World) : Calls Try.prog 31 #[.string ⟨#[120]⟩, .agg #[.int .i64 7, .int .i64 0, .int .i64 0, .int .i64 0, .slice none 0 0, .slice none 0 0, .slice none 0 0, .slice none 0 0]] w fun e w' => ∃ A c, e = .returned (.tuple #[.slice A 74 c, .int .i64 0]) ∧ BsIn w' A c 5 kC ∧ Fr No w w' := by
  refine (putState_any ⟨#[120]⟩ kSt none none none none 0 0 0 0 3 3 3 3 w ⟨Sl.nil w _ _ _, Sl.nil w _ _ _, Sl.nil w _ _ _, Sl.nil w _ _ _⟩ ⟨by decide, by simp, by simp, by simp, by decide, by decide, by decide, by decide⟩).mono ?_
  rintro e w' ⟨A, c, rfl, ho, hf⟩
  rw [kC_put.1] at ho
  exact ⟨A, c, by rw [kC_put.1, kC_put.2]; rfl, BsIn.of_own ho, hf⟩
theorem kGetB (A : Option Addr) (c : Nat) (w : World) (h : BsIn w A c 5 kB) : Calls Try.prog 29 #[.slice A 41 c] w fun e w' => ∃ A' c', e = .returned (.tuple #[.agg #[.int .i64 1, .int .i64 5, .int .i64 0, .string ⟨#[]⟩, .slice A' 0 c'], .int .i64 0]) ∧ Fr No w w' := by
  refine (getEvent_any A c 5 kB w h).mono ?_
  rintro e w' ⟨A', c', rfl, _, hf⟩
  rw [kB_get]
  exact ⟨A', c', rfl, hf⟩
theorem kGetC (A : Option Addr) (c : Nat) (w : World) (h : BsIn w A c 5 kC) : Calls Try.prog 35 #[.slice A 74 c] w fun e w' => ∃ A0 A1 A2 A3 c0 c1 c2 c3, e = .returned (.tuple #[.string ⟨#[120]⟩, .agg #[.int .i64 7, .int .i64 0, .int .i64 0, .int .i64 0, .slice A0 0 c0, .slice A1 0 c1, .slice A2 0 c2, .slice A3 0 c3], .int .i64 0]) ∧ Fr No w w' := by
  refine (getState_any A c 5 kC w h).mono ?_
  rintro e w' ⟨A0, A1, A2, A3, c0, c1, c2, c3, rfl, _, hf⟩
  rw [kC_get]
  exact ⟨A0, A1, A2, A3, c0, c1, c2, c3, rfl, hf⟩
set_option maxRecDepth 100000 in
set_option maxHeartbeats 2000000 in
theorem codKnown_any (w : World) : Calls Try.prog 28 #[] w fun e w' => e = .returned (.bool true) ∧ Fr No w w' := by
  go_enter Try.func28, Try.ntmps28
  go_wp2_with (first
    | (go_at_call 35; go_loud (refine (kGetC A3 c3 _ HC3.out).mono ?_); rintro e w4 ⟨B0, B1, B2, B3, d0, d1, d2, d3, rfl, hf4⟩; have HF4 := Lib.hid (HF3.out.trans hf4); have G4 := HG3.out.fr hf4 (fun h => h); have n1 := G4.cell 1; have n5 := G4.lt; have q0 := (hf4.cell (p := ⟨g, o, none⟩) kg (fun h => h)).trans k0; have q9 := (hf4.cell (p := ⟨g, o + 9, none⟩) kg (fun h => h)).trans k9; have qg := Nat.lt_of_lt_of_le kg hf4.size; simp only [List.getElem?_cons_succ, List.getElem?_cons_zero] at n1; clear hf4 k0 k9 kg G4)
    | (go_at_call 31; go_loud (refine (kPutC _).mono ?_); rintro e w3 ⟨A3, c3, rfl, hc3, hf3⟩; have HC3 := Lib.hid hc3; have hf3' := Fr.trans ((Fr.refl No w2).alloc (Obj.cells #[.int .i64 1, .int .i64 5, .int .i64 0, .string ⟨#[]⟩, .slice A2 0 c2] 49)) hf3; have HF3 := Lib.hid (HF2.out.trans hf3'); have HG3 := Lib.hid ((Blk.new w2 49 [.int .i64 1, .int .i64 5, .int .i64 0, .string ⟨#[]⟩, .slice A2 0 c2]).fr hf3 (fun h => h)); replace k0 := (hf3'.cell (p := ⟨g, o, none⟩) kg (fun h => h)).trans k0; replace k9 := (hf3'.cell (p := ⟨g, o + 9, none⟩) kg (fun h => h)).trans k9; replace kg := Nat.lt_of_lt_of_le kg hf3'.size; clear hc3 hf3 hf3')
    | (go_at_call 29; go_loud (refine (kGetB _ c _ HC1.out).mono ?_); rintro e w2 ⟨A2, c2, rfl, hf2⟩; have HF2 := Lib.hid (HF1.out.trans hf2); replace k0 := (hf2.cell (p := ⟨g, o, none⟩) kg (fun h => h)).trans k0; replace k9 := (hf2.cell (p := ⟨g, o + 9, none⟩) kg (fun h => h)).trans k9; replace kg := Nat.lt_of_lt_of_le kg hf2.size; clear hf2)
    | (go_at_call 25; go_loud (refine (kPutB _).mono ?_); rintro e w1 ⟨g, o, c, rfl, hb1, kg, k0, k9, hf1⟩; have HC1 := Lib.hid hb1; have HF1 := Lib.hid hf1; clear hb1 hf1))
  go_ret
  exact ⟨rfl, HF4.out.alloc _⟩
def SERel (w0 : World) (x : EvS) (A B : Option Addr) (c d : Nat) (g : Nat) (v5 : Value) (wr : World) : Prop := ∃ i : Nat, i + g = x.keep.length ∧ v5 = .int .i64 i ∧ Fr No w0 wr
set_option maxRecDepth 100000 in
set_option maxHeartbeats 2000000 in
theorem sameEv_any (x : EvS) (A B : Option Addr) (c d : Nat) (e1 e2 : TypeId) (w : World) (hA : Sl w e1 1 A x.keep.length (x.keep.flatMap fun x => [Value.int .i64 x])) (hB : Sl w e2 1 B x.keep.length (x.keep.flatMap fun x => [Value.int .i64 x])) (hl : x.keep.length ≤ maxLen) :
    Calls Try.prog 27 #[x.agg A c, x.agg B d] w fun e w' => e = .returned (.bool true) ∧ Fr No w w' := by
  have HA := Lib.hid hA
  have HB := Lib.hid hB
  have hl0 : (0 : Int) ≤ (x.keep.length : Int) := by omega
  have hl1 : (x.keep.length : Int) ≤ 9223372036854775807 := by simp only [maxLen] at hl; omega
  have G0 := (Blk.new w 49 (x.cells A c)).alloc (Obj.cells (x.cells B d).toArray 49)
  have G1 := Blk.new (w.alloc (Obj.cells (x.cells A c).toArray 49)) 49 (x.cells B d)
  rw [show (w.alloc (Obj.cells (x.cells A c).toArray 49)).heap.size = w.heap.size + 1 by simp] at G1
  have F0 := ((Fr.refl No w).alloc (Obj.cells (x.cells A c).toArray 49)).alloc (Obj.cells (x.cells B d).toArray 49)
  have HG0 := Lib.hid G0
  have HG1 := Lib.hid G1
  have HF0 := Lib.hid F0
  clear hA hB hl G0 G1 F0
  go_enter Try.func27, Try.ntmps27
  go_wp2
  go_loopg [5] x.keep.length (fun g v5 wr => SERel ((w.alloc (Obj.cells (x.cells A c).toArray 49)).alloc (Obj.cells (x.cells B d).toArray 49)) x A B c d g v5 wr)
  case atStart => exact ⟨0, by omega, rfl, Fr.refl _ _⟩
  case round =>
    obtain ⟨i, hg, rfl, hf⟩ := hrel
    have HF := Lib.hid hf
    have P0 := HG0.out.fr hf (fun h => h)
    have P1 := HG1.out.fr hf (fun h => h)
    have p4 := P0.cell 4
    have p5 := P0.lt
    have q4 := P1.cell 4
    have q5 := P1.lt
    simp only [List.getElem?_cons_succ, List.getElem?_cons_zero] at p4 q4
    clear hf P0 P1
    have hi0 : (0 : Int) ≤ (i : Int) := by omega
    by_cases hlt : i < x.keep.length
    · have hi1 : (i : Int) < (x.keep.length : Int) := by omega
      obtain ⟨y, hy⟩ : ∃ y, x.keep[i]? = some y := ⟨_, List.getElem?_eq_getElem hlt⟩
      obtain ⟨g1, o1, rfl, hg1, k1⟩ := int_at ((HA.out.fr0 HF0.out).fr0 HF.out) hy
      obtain ⟨g2, o2, rfl, hg2, k2⟩ := int_at ((HB.out.fr0 HF0.out).fr0 HF.out) hy
      clear hy
      go_wp2
      refine wp_region_o [(0, 0), (2, 0), (5, 0), (7, 0), (1, 1), (6, 1), (3, 0), (8, 0), (4, 1), (9, 1), (10, 0)] (by kernel_rfl) (by kernel_rfl) ?_
      repeat (first
        | (apply wpO_pure rfl rfl; (focus (intro w'; go_simp; (try rfl); done)); try simp only [Act.put, List.setIfInBounds_toArray, List.set_cons_zero, List.set_cons_succ])
        | (apply wpO_read rfl rfl; (focus (intro w' hf' hs'; (try simp only [World.size_drew, World.cell?_drew, World.size_alloc, World.size_setCell] at hs'); go_simp; (try rfl); done)); try simp only [Act.put, List.setIfInBounds_toArray, List.set_cons_zero, List.set_cons_succ])
        | (apply wpO_skip (by decide) rfl rfl; try simp only [Act.put, List.setIfInBounds_toArray, List.set_cons_zero, List.set_cons_succ]))
      refine wpO_nil ?_
      go_wp2
      go_roundg (x.keep.length - (i + 1))
      case measure => omega
      case rel => exact ⟨i + 1, by omega, by go_num, by have hh := HF.out; (repeat (first | exact Fr.refl _ _ | assumption | refine Fr.drew ?_ | refine Fr.alloc ?_ _ | refine Fr.drewL ?_))⟩
    · have hi1 : (x.keep.length : Int) ≤ (i : Int) := by omega
      obtain rfl : i = x.keep.length := by omega
      go_wp2
      go_ret
      exact ⟨rfl, HF0.out.trans HF.out⟩
end Go.Proofs.Ytegogggemmcgdaa
