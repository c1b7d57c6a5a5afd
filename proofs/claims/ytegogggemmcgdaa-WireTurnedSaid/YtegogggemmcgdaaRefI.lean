/- ref.Net: Drain. -/
import Derived.Test.YtegogggemmcgdaaRefH
namespace Go.Proofs.Ytegogggemmcgdaa
open Go Go.RowKit Go.Proofs

/-- two rows of one call, each its own -/
structure TwoR (w0 : World) (u v : Value) (xs ys : List Msg) (w : World) : Prop where
  one : w.ownsRow w0.heap.size 30 8 u xs.length (xs.flatMap Msg.vals)
  two : w.ownsRow w0.heap.size 30 8 v ys.length (ys.flatMap Msg.vals)
  ne : ∀ k, u.ownBlock = some k → v.ownBlock = some k → False
  fr : Fr No w0 w
section
variable {w0 w w' : World} {u u' v v' : Value} {xs ys : List Msg} {x : Msg}
theorem TwoR.symm (h : TwoR w0 u v xs ys w) : TwoR w0 v u ys xs w := ⟨h.two, h.one, fun k h1 h2 => h.ne k h2 h1, h.fr⟩
theorem TwoR.fr0 (h : TwoR w0 u v xs ys w) (hf : Fr No w w') : TwoR w0 u v xs ys w' := ⟨own_fr0 h.one hf, own_fr0 h.two hf, h.ne, h.fr.trans hf⟩
theorem TwoR.start (w0 : World) : TwoR w0 (.slice none 0 0) (.slice none 0 0) [] [] w0 := ⟨⟨rfl, .inl ⟨rfl, rfl⟩⟩, ⟨rfl, .inl ⟨rfl, rfl⟩⟩, fun k h => (by cases h), Fr.refl _ _⟩
theorem TwoR.grow (h : TwoR w0 u v xs ys w) (ho : w'.ownsRow w0.heap.size 30 8 u' (xs.length + 1) (xs.flatMap Msg.vals ++ x.vals)) (hg : w.grownBy w' u.ownBlock) (hat : u'.ownBlock = u.ownBlock ∨ u'.ownBlock = some w.heap.size) :
    TwoR w0 u' v (xs ++ [x]) ys w' := by
  refine ⟨?_, own_fr h.two (Fr.of_grown hg) (fun k hk e => h.ne k e.symm hk), fun k h1 h2 => ?_, h.fr.grown hg (fun k hk => .inr (own_size h.one k hk).1)⟩
  · rw [vals_snoc]
    simpa using ho
  · rcases hat with e | e
    · exact h.ne k (e ▸ h1) h2
    · have := (own_size h.two k h2).2
      rw [e] at h1
      injection h1 with h1
      omega
end


def refDrainT (K : List (Int × Int)) (i : Int) (x : Msg) : Bool := x.to_ == i && !refCut K x
def refDrainC (l : List Msg) (K : List (Int × Int)) (i : Int) : List Msg := if 0 ≤ i ∧ i < 8 then l.filter (refDrainT K i) else []
def refDrainL (l : List Msg) (K : List (Int × Int)) (i : Int) : List Msg := if 0 ≤ i ∧ i < 8 then l.filter (fun x => !refDrainT K i x) else l
def RDRel (w0 : World) (l : List Msg) (K : List (Int × Int)) (i : Int) (g : Nat) (v6 v7 v8 : Value) (w : World) : Prop :=
  ∃ k : Nat, k + g = l.length ∧ v8 = .int .i64 k ∧ ∃ u v, u = v6 ∧ v = v7 ∧ TwoR w0 u v ((l.take k).filter (refDrainT K i)) ((l.take k).filter (fun x => !refDrainT K i x)) w
theorem RDRel.step {w0 w' : World} {l : List Msg} {K : List (Int × Int)} {i : Int} {k : Nat} {u v : Value} (hk : k < l.length)
    (h : TwoR w0 u v ((l.take (k + 1)).filter (refDrainT K i)) ((l.take (k + 1)).filter (fun x => !refDrainT K i x)) w') : RDRel w0 l K i (l.length - (k + 1)) u v (.int .i64 ((k : Int) + 1)) w' :=
  ⟨k + 1, by omega, by go_num, u, v, rfl, rfl, h⟩

set_option maxRecDepth 100000 in
set_option maxHeartbeats 2000000 in
theorem refDrain_any (r : Nat) (l : List Msg) (K : List (Int × Int)) (i : Int) (w : World) (h : RefAt w r l K) (hl : l.length ≤ 1000) (hK : K.length ≤ 1000) :
    Calls Try.prog 81 #[.pointer (some ⟨r, 0, none⟩), .int .i64 i] w fun e w' => ∃ A c, e = .returned (.tuple #[.slice A (refDrainC l K i).length c, .int .i64 (drainE i)]) ∧
      Sl w' 30 8 A (refDrainC l K i).length ((refDrainC l K i).flatMap Msg.vals) ∧ RefAt w' r (refDrainL l K i) K ∧ Fr (· = r) w w' := by
  cases hp : placeB i
  · have hp' : ¬ (0 ≤ i ∧ i < 8) := by simp [placeB] at hp; omega
    have e1 : refDrainC l K i = [] := by unfold refDrainC; rw [if_neg hp']
    have e2 : refDrainL l K i = l := by unfold refDrainL; rw [if_neg hp']
    have e3 : drainE i = 1 := by unfold drainE; rw [if_neg hp']
    rw [e1, e2, e3]
    have H := Lib.hid h
    clear h e1 e2 e3 hp' hK hl
    go_enter Try.func81, Try.ntmps81
    go_wp2_with (go_at_call 107; refine (place_any _ _).mono ?_; rintro e w1 ⟨rfl, hw⟩; obtain rfl := hw.symm)
    exact bodyPost_ret (v := .tuple #[.slice none 0 0, .int .i64 1]) (by simp [results, Try.results81, go_sem]) rfl ⟨none, 0, rfl, Sl.nil _ _ _ _, H.out, Fr.refl _ _⟩
  · have hp' : 0 ≤ i ∧ i < 8 := by simp [placeB] at hp; omega
    have e1 : refDrainC l K i = l.filter (refDrainT K i) := by unfold refDrainC; rw [if_pos hp']
    have e2 : refDrainL l K i = l.filter (fun x => !refDrainT K i x) := by unfold refDrainL; rw [if_pos hp']
    have e3 : drainE i = 0 := by unfold drainE; rw [if_pos hp']
    rw [e1, e2, e3]
    clear e1 e2 e3 hp'
    have H := Lib.hid h
    have HK := Lib.hid hK
    have hl1 : (0 : Int) ≤ (l.length : Int) := by omega
    have hl2 : (l.length : Int) ≤ 1000 := by omega
    clear h hK hl
    obtain ⟨i0, hi0, hz0, hz1, hz2⟩ := info_parts refMsg_info
    go_enter Try.func81, Try.ntmps81
    go_wp2_with (go_at_call 107; refine (place_any _ _).mono ?_; rintro e w1 ⟨rfl, hw⟩; obtain rfl := hw.symm)
    go_loopg [6, 7, 8] l.length (fun g v6 v7 v8 wr => RDRel w l K i g v6 v7 v8 wr)
    case atStart => exact ⟨0, by omega, rfl, _, _, rfl, rfl, TwoR.start w⟩
    case round =>
      obtain ⟨k, hg, rfl, u, v, rfl, rfl, ht⟩ := hrel
      have HT := Lib.hid ht
      clear ht
      have HR := Lib.hid (H.out.fr0 HT.out.fr)
      obtain ⟨A, c, A2, c2, hB, hS, hc, hS2, hc2⟩ := HR.out
      have n0 := hB.cell 0
      simp only [List.getElem?_cons_zero] at n0
      have nf := hB.frozen 0
      have rl := hB.lt
      have HB := Lib.hid hB
      have HS2 := Lib.hid hS2
      clear hB hS2
      have hk0 : (0 : Int) ≤ (k : Int) := by omega
      by_cases hlt : k < l.length
      · have hk1 : (k : Int) < (l.length : Int) := by omega
        obtain ⟨x, hxk⟩ : ∃ x, l[k]? = some x := ⟨_, List.getElem?_eq_getElem hlt⟩
        obtain ⟨b, o, rfl, hb, ⟨m0, m1, m2, m3, m4, m5, m6, m7⟩⟩ := msg_cells hS hxk
        have HX := Lib.hid hxk
        clear hxk hS
        have eC := take_succ_filter HX.out (refDrainT K i)
        have eR := take_succ_filter HX.out (fun x => !refDrainT K i x)
        have bC : ((l.take k).filter (refDrainT K i)).length ≤ 1000 := Nat.le_trans (List.length_filter_le _ _) (by rw [List.length_take]; omega)
        have bR : ((l.take k).filter (fun x => !refDrainT K i x)).length ≤ 1000 := Nat.le_trans (List.length_filter_le _ _) (by rw [List.length_take]; omega)
        by_cases hto : x.to_ = i
        · have hto' : (x.to_ == i) = true := beq_iff_eq.2 hto
          clear hto
          cases hcut : refCut K x
          · have hd : refDrainT K i x = true := by simp [refDrainT, hto', hcut]
            simp only [hd, if_true, Bool.not_true, Bool.false_eq_true, if_false, List.append_nil] at eC eR
            have EC := Lib.hid eC
            have ER := Lib.hid eR
            clear eC eR hd
            go_wp2_with (first
              | (go_at_call 83; refine (refOpen_any r l K x _ HR.out HK.out).mono ?_; rintro e w2 ⟨rfl, hf2⟩
                 have T2 := Lib.hid (HT.out.fr0 hf2)
                 obtain ⟨B, c', B2, c2', hB', hS', _, _, _⟩ := HR.out.fr0 hf2
                 have n0' := hB'.cell 0
                 simp only [List.getElem?_cons_zero] at n0'
                 obtain ⟨b', o', rfl, hb', ⟨q0, q1, q2, q3, q4, q5, q6, q7⟩⟩ := msg_cells hS' HX.out
                 have rl' := hB'.lt
                 clear hB' hS' hf2)
              | (at_builtin; go_loud (refine wpList_append_owned' (by rfl) (.tmp 42) (.tmp 50) 22 (by rfl) w.heap.size 30 i0 _ 8 72 Try.underlying22 hi0 hz0 hz1 hz2 rfl (by omega) u ((l.take k).filter (refDrainT K i)).length (((l.take k).filter (refDrainT K i)).flatMap Msg.vals) (by rfl) (T2.out.fr0 ((Fr.refl No _).alloc (Obj.cells x.vals.toArray 30))).one (some ⟨(w2).heap.size, 0, none⟩) 1 1 30 x.vals (by rfl) (Sl.of_new (w2) 30 8 1 x.vals.toArray x.vals rfl rfl) (by simpa using vals_one [x]) (by simp only [maxLen]; omega) (by omega) (by have := T2.out.fr.size; simp only [World.size_alloc] at this ⊢; omega) ?_); intro v2 w4 hown2 hg2 hat2))
            have T4 := ((T2.out.fr0 ((Fr.refl No _).alloc (Obj.cells x.vals.toArray 30))).grow (x := x) hown2 hg2 hat2)
            rw [← EC.out, ← ER.out] at T4
            go_roundg (l.length - (k + 1))
            case measure => omega
            case rel => exact RDRel.step hlt T4
          · have hd : refDrainT K i x = false := by simp [refDrainT, hto', hcut]
            simp only [hd, if_true, Bool.not_false, Bool.false_eq_true, if_false, List.append_nil] at eC eR
            have EC := Lib.hid eC
            have ER := Lib.hid eR
            clear eC eR hd
            go_wp2_with (first
              | (go_at_call 83; refine (refOpen_any r l K x _ HR.out HK.out).mono ?_; rintro e w2 ⟨rfl, hf2⟩
                 have T2 := Lib.hid (HT.out.fr0 hf2)
                 obtain ⟨B, c', B2, c2', hB', hS', _, _, _⟩ := HR.out.fr0 hf2
                 have n0' := hB'.cell 0
                 simp only [List.getElem?_cons_zero] at n0'
                 obtain ⟨b', o', rfl, hb', ⟨q0, q1, q2, q3, q4, q5, q6, q7⟩⟩ := msg_cells hS' HX.out
                 have rl' := hB'.lt
                 clear hB' hS' hf2)
              | (at_builtin; go_loud (refine wpList_append_owned' (by rfl) (.tmp 52) (.tmp 60) 22 (by rfl) w.heap.size 30 i0 _ 8 72 Try.underlying22 hi0 hz0 hz1 hz2 rfl (by omega) v ((l.take k).filter (fun x => !refDrainT K i x)).length (((l.take k).filter (fun x => !refDrainT K i x)).flatMap Msg.vals) (by rfl) (T2.out.fr0 ((Fr.refl No _).alloc (Obj.cells x.vals.toArray 30))).two (some ⟨(w2).heap.size, 0, none⟩) 1 1 30 x.vals (by rfl) (Sl.of_new (w2) 30 8 1 x.vals.toArray x.vals rfl rfl) (by simpa using vals_one [x]) (by simp only [maxLen]; omega) (by omega) (by have := T2.out.fr.size; simp only [World.size_alloc] at this ⊢; omega) ?_); intro v2 w4 hown2 hg2 hat2))
            have T4 := (((T2.out.fr0 ((Fr.refl No _).alloc (Obj.cells x.vals.toArray 30))).symm.grow (x := x) hown2 hg2 hat2)).symm
            rw [← EC.out, ← ER.out] at T4
            go_roundg (l.length - (k + 1))
            case measure => omega
            case rel => exact RDRel.step hlt T4
        · have hto' : (x.to_ == i) = false := beq_eq_false_iff_ne.2 hto
          clear hto
          have hd : refDrainT K i x = false := by simp [refDrainT, hto']
          have T2 := HT
          simp only [hd, if_true, Bool.not_false, Bool.false_eq_true, if_false, List.append_nil] at eC eR
          have EC := Lib.hid eC
          have ER := Lib.hid eR
          clear eC eR hd
          go_wp2_with (first
            | (go_at_call 83; refine (refOpen_any r l K x _ HR.out HK.out).mono ?_; rintro e w2 ⟨rfl, hf2⟩
               have T2 := Lib.hid (HT.out.fr0 hf2)
               obtain ⟨B, c', B2, c2', hB', hS', _, _, _⟩ := HR.out.fr0 hf2
               have n0' := hB'.cell 0
               simp only [List.getElem?_cons_zero] at n0'
               obtain ⟨b', o', rfl, hb', ⟨q0, q1, q2, q3, q4, q5, q6, q7⟩⟩ := msg_cells hS' HX.out
               have rl' := hB'.lt
               clear hB' hS' hf2)
            | (at_builtin; go_loud (refine wpList_append_owned' (by rfl) (.tmp 52) (.tmp 60) 22 (by rfl) w.heap.size 30 i0 _ 8 72 Try.underlying22 hi0 hz0 hz1 hz2 rfl (by omega) v ((l.take k).filter (fun x => !refDrainT K i x)).length (((l.take k).filter (fun x => !refDrainT K i x)).flatMap Msg.vals) (by rfl) (T2.out.fr0 ((Fr.refl No _).alloc (Obj.cells x.vals.toArray 30))).two (some ⟨(wr).heap.size, 0, none⟩) 1 1 30 x.vals (by rfl) (Sl.of_new (wr) 30 8 1 x.vals.toArray x.vals rfl rfl) (by simpa using vals_one [x]) (by simp only [maxLen]; omega) (by omega) (by have := T2.out.fr.size; simp only [World.size_alloc] at this ⊢; omega) ?_); intro v2 w4 hown2 hg2 hat2))
          have T4 := (((T2.out.fr0 ((Fr.refl No _).alloc (Obj.cells x.vals.toArray 30))).symm.grow (x := x) hown2 hg2 hat2)).symm
          rw [← EC.out, ← ER.out] at T4
          go_roundg (l.length - (k + 1))
          case measure => omega
          case rel => exact RDRel.step hlt T4
      · obtain rfl : k = l.length := by omega
        rw [List.take_length] at HT
        obtain ⟨A3, c3, rfl, hc3⟩ := own_shape HT.out.one
        obtain ⟨A4, c4, rfl, hc4⟩ := own_shape HT.out.two
        go_wp2
        refine bodyPost_ret (v := .tuple #[.slice A3 (l.filter (refDrainT K i)).length c3, .int .i64 0]) (by simp [results, Try.results81, go_sem]) rfl ⟨A3, c3, rfl, ?_, ⟨A4, c4, A2, c2, HB.out.set_ 0 _, ?_, hc4, HS2.out.far HB.out (by decide) rfl _, hc2⟩, (HT.out.fr.any (· = r)).setCell (.inl rfl) _⟩
        · exact (Sl.of_own HT.out.one).far HB.out (by decide) rfl _
        · exact (Sl.of_own HT.out.two).far HB.out (by decide) rfl _
end Go.Proofs.Ytegogggemmcgdaa
