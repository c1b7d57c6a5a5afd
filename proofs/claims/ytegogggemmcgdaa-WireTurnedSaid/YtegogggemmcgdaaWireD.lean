/- wire: Drain. -/
import Derived.Test.YtegogggemmcgdaaWireL
import Derived.Deep.DeepCutAuto
import Derived.Deep.LoopGhost
namespace Go.Proofs.Ytegogggemmcgdaa
open Go Go.RowKit Go.Proofs

theorem own_fr {S : Nat → Prop} {w w' : World} {base n size : Nat} {e : TypeId} {v : Value} {xs : List Value} (h : w.ownsRow base e size v n xs) (hf : Fr S w w') (hS : ∀ k, v.ownBlock = some k → ¬ S k) : w'.ownsRow base e size v n xs := by
  refine ⟨h.1, ?_⟩
  rcases h.2 with h0 | ⟨g, cap, cur, rfl, h1, h2, h3⟩
  · exact .inl h0
  · exact .inr ⟨g, cap, cur, rfl, h1, (hf.block g (lt_of_heap h2) (hS g rfl)).trans h2, h3⟩
theorem own_fr0 {w w' : World} {base n size : Nat} {e : TypeId} {v : Value} {xs : List Value} (h : w.ownsRow base e size v n xs) (hf : Fr No w w') : w'.ownsRow base e size v n xs := own_fr h hf fun _ _ h => h
theorem own_size {w : World} {base n size : Nat} {e : TypeId} {v : Value} {xs : List Value} (h : w.ownsRow base e size v n xs) (k : Nat) (hk : v.ownBlock = some k) : base ≤ k ∧ k < w.heap.size := by
  rcases h.2 with ⟨rfl, _⟩ | ⟨g, cap, cur, rfl, h1, h2, h3⟩
  · cases hk
  · simp only [Value.ownBlock, Option.some.injEq] at hk
    subst hk
    exact ⟨h1, lt_of_heap h2⟩

/-- two rows of one call, each its own -/
structure Two (w0 : World) (u v : Value) (xs ys : List Msg) (w : World) : Prop where
  one : w.ownsRow w0.heap.size 28 8 u xs.length (xs.flatMap Msg.vals)
  two : w.ownsRow w0.heap.size 28 8 v ys.length (ys.flatMap Msg.vals)
  ne : ∀ k, u.ownBlock = some k → v.ownBlock = some k → False
  fr : Fr No w0 w
section
variable {w0 w w' : World} {u u' v v' : Value} {xs ys : List Msg} {x : Msg}
theorem Two.symm (h : Two w0 u v xs ys w) : Two w0 v u ys xs w := ⟨h.two, h.one, fun k h1 h2 => h.ne k h2 h1, h.fr⟩
theorem Two.fr0 (h : Two w0 u v xs ys w) (hf : Fr No w w') : Two w0 u v xs ys w' := ⟨own_fr0 h.one hf, own_fr0 h.two hf, h.ne, h.fr.trans hf⟩
theorem Two.start (w0 : World) : Two w0 (.slice none 0 0) (.slice none 0 0) [] [] w0 := ⟨⟨rfl, .inl ⟨rfl, rfl⟩⟩, ⟨rfl, .inl ⟨rfl, rfl⟩⟩, fun k h => (by cases h), Fr.refl _ _⟩
theorem Two.grow (h : Two w0 u v xs ys w) (ho : w'.ownsRow w0.heap.size 28 8 u' (xs.length + 1) (xs.flatMap Msg.vals ++ x.vals)) (hg : w.grownBy w' u.ownBlock) (hat : u'.ownBlock = u.ownBlock ∨ u'.ownBlock = some w.heap.size) :
    Two w0 u' v (xs ++ [x]) ys w' := by
  refine ⟨?_, own_fr h.two (Fr.of_grown hg) (fun k hk e => h.ne k e.symm hk), fun k h1 h2 => ?_, h.fr.grown hg (fun k hk => .inr (own_size h.one k hk).1)⟩
  · rw [vals_snoc]
    simpa using ho
  · rcases hat with e | e
    · exact h.ne k (e ▸ h1) h2
    · have := (own_size h.two k h2).2
      rw [e] at h1
      injection h1 with h1
      omega
end

def drainT (C : Cuts) (i : Int) (x : Msg) : Bool := x.to_ == i && !cutV C x
def drainC (l : List Msg) (C : Cuts) (i : Int) : List Msg := if 0 ≤ i ∧ i < 8 then l.filter (drainT C i) else []
def drainL (l : List Msg) (C : Cuts) (i : Int) : List Msg := if 0 ≤ i ∧ i < 8 then l.filter (fun x => !drainT C i x) else l
def drainE (i : Int) : Int := if 0 ≤ i ∧ i < 8 then 0 else 1
def DRel (w0 : World) (l : List Msg) (C : Cuts) (i : Int) (g : Nat) (v6 v7 v25 : Value) (w : World) : Prop :=
  ∃ k : Nat, k + g = l.length ∧ v25 = .int .i64 k ∧ ∃ u v, u = v6 ∧ v = v7 ∧ Two w0 u v ((l.take k).filter (drainT C i)) ((l.take k).filter (fun x => !drainT C i x)) w
theorem take_succ_filter {l : List Msg} {k : Nat} {x : Msg} (hx : l[k]? = some x) (f : Msg → Bool) : (l.take (k + 1)).filter f = (l.take k).filter f ++ (if f x then [x] else []) := by
  rw [List.take_add_one, hx, List.filter_append]
  cases h : f x <;> simp [h]
theorem DRel.step {w0 w' : World} {l : List Msg} {C : Cuts} {i : Int} {k : Nat} {x : Msg} {u v : Value} (hk : k < l.length) (hx : l[k]? = some x)
    (h : Two w0 u v ((l.take (k + 1)).filter (drainT C i)) ((l.take (k + 1)).filter (fun x => !drainT C i x)) w') : DRel w0 l C i (l.length - (k + 1)) u v (.int .i64 ((k : Int) + 1)) w' :=
  ⟨k + 1, by omega, by go_num, u, v, rfl, rfl, h⟩

set_option maxRecDepth 100000 in
set_option maxHeartbeats 600000 in
theorem drain_any (p m : Nat) (l : List Msg) (C : Cuts) (i : Int) (w : World) (h : NetAt w p m l C) (hl : l.length ≤ 1000) :
    Calls Try.prog 23 #[.pointer (some ⟨p, 0, none⟩), .int .i64 i] w fun e w' => ∃ A c, e = .returned (.tuple #[.slice A (drainC l C i).length c, .int .i64 (drainE i)]) ∧
      Sl w' 28 8 A (drainC l C i).length ((drainC l C i).flatMap Msg.vals) ∧ NetAt w' p m (drainL l C i) C ∧ Fr (· = p) w w' := by
  have hi1 : i < 0 ∨ 0 ≤ i := by omega
  rcases hi1 with hi1 | hi1
  · have e1 : drainC l C i = [] := by unfold drainC; rw [if_neg (by omega)]
    have e2 : drainL l C i = l := by unfold drainL; rw [if_neg (by omega)]
    have e3 : drainE i = 1 := by unfold drainE; rw [if_neg (by omega)]
    rw [e1, e2, e3]
    have H := Lib.hid h
    clear h e1 e2 e3
    go_enter Try.func23, Try.ntmps23
    go_wp2
    exact bodyPost_ret (v := .tuple #[.slice none 0 0, .int .i64 1]) (by simp [results, Try.results23, go_sem]) rfl ⟨none, 0, rfl, Sl.nil _ _ _ _, H.out, Fr.refl _ _⟩
  · have hi2 : i < 8 ∨ 8 ≤ i := by omega
    rcases hi2 with hi2 | hi2
    · have e1 : drainC l C i = l.filter (drainT C i) := by unfold drainC; rw [if_pos ⟨hi1, hi2⟩]
      have e2 : drainL l C i = l.filter (fun x => !drainT C i x) := by unfold drainL; rw [if_pos ⟨hi1, hi2⟩]
      have e3 : drainE i = 0 := by unfold drainE; rw [if_pos ⟨hi1, hi2⟩]
      rw [e1, e2, e3]
      clear e1 e2 e3
      obtain ⟨A, cp, hB, hS, hcp, hM⟩ := id h
      have h0 := hB.cell 0
      simp only [List.getElem?_cons_zero] at h0
      have H := Lib.hid h
      have HS := Lib.hid hS
      have HB := Lib.hid hB
      have HL := Lib.hid hl
      have lp := hB.lt
      obtain ⟨i0, hi0, hz0, hz1, hz2⟩ := info_parts msg_info
      clear h hB hS hM
      have hl1 : (0 : Int) ≤ (l.length : Int) := by omega
      have hl2 : (l.length : Int) ≤ 1000 := by omega
      clear hl
      go_enter Try.func23, Try.ntmps23
      go_wp2
      go_loopg [6, 7, 25] l.length (fun g v6 v7 v25 wr => DRel w l C i g v6 v7 v25 wr)
      case atStart => exact ⟨0, by omega, rfl, _, _, rfl, rfl, Two.start w⟩
      case round =>
        obtain ⟨k, hg, rfl, u, v, rfl, rfl, ht⟩ := hrel
        have HT := Lib.hid ht
        clear ht
        have hk0 : (0 : Int) ≤ (k : Int) := by omega
        by_cases hlt : k < l.length
        · have hk1 : (k : Int) < (l.length : Int) := by omega
          obtain ⟨x, hxk⟩ : ∃ x, l[k]? = some x := ⟨_, List.getElem?_eq_getElem hlt⟩
          obtain ⟨b, o, hA, hb, ⟨m0, m1, m2, m3, m4, m5, m6, m7⟩⟩ := msg_cells (HS.out.fr0 HT.out.fr) hxk
          subst hA
          have HX := Lib.hid hxk
          clear hxk
          have eC := take_succ_filter HX.out (drainT C i)
          have eR := take_succ_filter HX.out (fun x => !drainT C i x)
          have bC : ((l.take k).filter (drainT C i)).length ≤ 1000 := Nat.le_trans (List.length_filter_le _ _) (by rw [List.length_take]; omega)
          have bR : ((l.take k).filter (fun x => !drainT C i x)).length ≤ 1000 := Nat.le_trans (List.length_filter_le _ _) (by rw [List.length_take]; omega)
          by_cases hto : x.to_ = i
          · have hto' : (x.to_ == i) = true := beq_iff_eq.2 hto
            clear hto
            cases hcut : cutV C x
            · have hd : drainT C i x = true := by simp [drainT, hto', hcut]
              simp only [hd, if_true, Bool.not_true, Bool.false_eq_true, if_false, List.append_nil] at eC eR
              have EC := Lib.hid eC
              have ER := Lib.hid eR
              clear eC eR hd
              go_wp2_with (first
                | (go_at_call 56; refine (open_any p m l C x _ ((H.out.fr0 HT.out.fr).alloc _)).mono ?_; rintro e w2 ⟨rfl, hf2⟩
                   have F2 := Lib.hid (((Fr.refl No wr).alloc (Obj.cells x.vals.toArray 28)).trans hf2)
                   have hL2 := (Blk.new wr 28 x.vals).fr hf2 (fun h => h)
                   obtain ⟨q0, q1, q2, q3, q4, q5, q6, q7⟩ := hL2.cells8
                   have ql := hL2.lt
                   have T2 := Lib.hid (HT.out.fr0 F2.out)
                   clear hL2 hf2 m0 m1 m2 m3 m4 m5 m6 m7)
                | (at_builtin; go_loud (refine wpList_append_owned' (by rfl) (.tmp 38) (.tmp 40) 44 (by rfl) w.heap.size 28 i0 _ 8 72 Try.underlying44 hi0 hz0 hz1 hz2 rfl (by omega) u ((l.take k).filter (drainT C i)).length (((l.take k).filter (drainT C i)).flatMap Msg.vals) (by rfl) (T2.out.fr0 ((Fr.refl No _).alloc (Obj.cells x.vals.toArray 28))).one (some ⟨w2.heap.size, 0, none⟩) 1 1 28 x.vals (by rfl) (by have hsl := Sl.of_new (w2) 28 8 1 x.vals.toArray x.vals rfl rfl; simpa only [World.size_alloc] using hsl) (by simpa using vals_one [x]) (by simp only [maxLen]; omega) (by omega) (by have := T2.out.fr.size; simp only [World.size_alloc] at this ⊢; omega) ?_); intro v2 w4 hown2 hg2 hat2))
              have T4 := ((T2.out.fr0 ((Fr.refl No _).alloc (Obj.cells x.vals.toArray 28))).grow (x := x) hown2 hg2 hat2)
              rw [← EC.out, ← ER.out] at T4
              have T4' := DRel.step hlt HX.out T4
              go_roundg (l.length - (k + 1))
              case measure => omega
              case rel => exact T4'
            · have hd : drainT C i x = false := by simp [drainT, hto', hcut]
              simp only [hd, if_true, Bool.not_false, Bool.false_eq_true, if_false, List.append_nil] at eC eR
              have EC := Lib.hid eC
              have ER := Lib.hid eR
              clear eC eR hd
              go_wp2_with (first
                | (go_at_call 56; refine (open_any p m l C x _ ((H.out.fr0 HT.out.fr).alloc _)).mono ?_; rintro e w2 ⟨rfl, hf2⟩
                   have F2 := Lib.hid (((Fr.refl No wr).alloc (Obj.cells x.vals.toArray 28)).trans hf2)
                   have hL2 := (Blk.new wr 28 x.vals).fr hf2 (fun h => h)
                   obtain ⟨q0, q1, q2, q3, q4, q5, q6, q7⟩ := hL2.cells8
                   have ql := hL2.lt
                   have T2 := Lib.hid (HT.out.fr0 F2.out)
                   clear hL2 hf2 m0 m1 m2 m3 m4 m5 m6 m7)
                | (at_builtin; go_loud (refine wpList_append_owned' (by rfl) (.tmp 42) (.tmp 44) 44 (by rfl) w.heap.size 28 i0 _ 8 72 Try.underlying44 hi0 hz0 hz1 hz2 rfl (by omega) v ((l.take k).filter (fun x => !drainT C i x)).length (((l.take k).filter (fun x => !drainT C i x)).flatMap Msg.vals) (by rfl) (T2.out.fr0 ((Fr.refl No _).alloc (Obj.cells x.vals.toArray 28))).two (some ⟨w2.heap.size, 0, none⟩) 1 1 28 x.vals (by rfl) (by have hsl := Sl.of_new (w2) 28 8 1 x.vals.toArray x.vals rfl rfl; simpa only [World.size_alloc] using hsl) (by simpa using vals_one [x]) (by simp only [maxLen]; omega) (by omega) (by have := T2.out.fr.size; simp only [World.size_alloc] at this ⊢; omega) ?_); intro v2 w4 hown2 hg2 hat2))
              have T4 := (((T2.out.fr0 ((Fr.refl No _).alloc (Obj.cells x.vals.toArray 28))).symm.grow (x := x) hown2 hg2 hat2)).symm
              rw [← EC.out, ← ER.out] at T4
              have T4' := DRel.step hlt HX.out T4
              go_roundg (l.length - (k + 1))
              case measure => omega
              case rel => exact T4'
          · have hto' : (x.to_ == i) = false := beq_eq_false_iff_ne.2 hto
            clear hto
            have hd : drainT C i x = false := by simp [drainT, hto']
            have T2 := Lib.hid (HT.out.fr0 ((Fr.refl No wr).alloc (Obj.cells x.vals.toArray 28)))
            simp only [hd, if_true, Bool.not_false, Bool.false_eq_true, if_false, List.append_nil] at eC eR
            have EC := Lib.hid eC
            have ER := Lib.hid eR
            clear eC eR hd
            go_wp2_with (first
              | (go_at_call 56; refine (open_any p m l C x _ ((H.out.fr0 HT.out.fr).alloc _)).mono ?_; rintro e w2 ⟨rfl, hf2⟩
                 have F2 := Lib.hid (((Fr.refl No wr).alloc (Obj.cells x.vals.toArray 28)).trans hf2)
                 have hL2 := (Blk.new wr 28 x.vals).fr hf2 (fun h => h)
                 obtain ⟨q0, q1, q2, q3, q4, q5, q6, q7⟩ := hL2.cells8
                 have ql := hL2.lt
                 have T2 := Lib.hid (HT.out.fr0 F2.out)
                 clear hL2 hf2 m0 m1 m2 m3 m4 m5 m6 m7)
              | (at_builtin; go_loud (refine wpList_append_owned' (by rfl) (.tmp 42) (.tmp 44) 44 (by rfl) w.heap.size 28 i0 _ 8 72 Try.underlying44 hi0 hz0 hz1 hz2 rfl (by omega) v ((l.take k).filter (fun x => !drainT C i x)).length (((l.take k).filter (fun x => !drainT C i x)).flatMap Msg.vals) (by rfl) (T2.out.fr0 ((Fr.refl No _).alloc (Obj.cells x.vals.toArray 28))).two (some ⟨wr.heap.size + 1, 0, none⟩) 1 1 28 x.vals (by rfl) (by have hsl := Sl.of_new (wr.alloc (Obj.cells x.vals.toArray 28)) 28 8 1 x.vals.toArray x.vals rfl rfl; simpa only [World.size_alloc] using hsl) (by simpa using vals_one [x]) (by simp only [maxLen]; omega) (by omega) (by have := T2.out.fr.size; simp only [World.size_alloc] at this ⊢; omega) ?_); intro v2 w4 hown2 hg2 hat2))
            have T4 := (((T2.out.fr0 ((Fr.refl No _).alloc (Obj.cells x.vals.toArray 28))).symm.grow (x := x) hown2 hg2 hat2)).symm
            rw [← EC.out, ← ER.out] at T4
            have T4' := DRel.step hlt HX.out T4
            go_roundg (l.length - (k + 1))
            case measure => omega
            case rel => exact T4'
        · obtain rfl : k = l.length := by omega
          rw [List.take_length] at HT
          have hB2 := HB.out.fr HT.out.fr (fun h => h)
          have q0 := hB2.cell 0
          have q1 := hB2.frozen 0
          have q2 := hB2.lt
          simp only [List.getElem?_cons_zero] at q0
          obtain ⟨A1, c1, rfl, hc1⟩ := own_shape HT.out.one
          obtain ⟨A2, c2, rfl, hc2⟩ := own_shape HT.out.two
          go_wp2
          refine bodyPost_ret (v := .tuple #[.slice A1 (l.filter (drainT C i)).length c1, .int .i64 0]) (by simp [results, Try.results23, go_sem]) rfl ⟨A1, c1, rfl, ?_, ⟨A2, c2, ?_, ?_, hc2, ?_⟩, ?_⟩
          · exact (Sl.of_own HT.out.one).far hB2 (by decide) rfl _
          · exact hB2.set_ 0 _
          · exact (Sl.of_own HT.out.two).far hB2 (by decide) rfl _
          · obtain ⟨_, _, _, _, _, hM⟩ := H.out.fr0 HT.out.fr
            exact hM.far (p := ⟨p, 0, none⟩) ((hM.ne hB2)).symm _
          · exact (HT.out.fr.any (· = p)).setCell (.inl rfl) _
    · have e1 : drainC l C i = [] := by unfold drainC; rw [if_neg (by omega)]
      have e2 : drainL l C i = l := by unfold drainL; rw [if_neg (by omega)]
      have e3 : drainE i = 1 := by unfold drainE; rw [if_neg (by omega)]
      rw [e1, e2, e3]
      have H := Lib.hid h
      clear h e1 e2 e3
      go_enter Try.func23, Try.ntmps23
      go_wp2
      exact bodyPost_ret (v := .tuple #[.slice none 0 0, .int .i64 1]) (by simp [results, Try.results23, go_sem]) rfl ⟨none, 0, rfl, Sl.nil _ _ _ _, H.out, Fr.refl _ _⟩
end Go.Proofs.Ytegogggemmcgdaa
