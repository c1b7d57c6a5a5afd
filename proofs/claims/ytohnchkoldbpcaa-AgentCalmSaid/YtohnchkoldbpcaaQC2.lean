import Derived.Test.YtohnchkoldbpcaaQC1
import Derived.Shelf.Spec.SlicesInsertGrow
set_option linter.unusedVariables false
set_option linter.unusedSimpArgs false
/- agent: what a hub is in memory; last, Low. -/
namespace Go.Proofs.Ytohnchkoldbpcaa
open Go Go.RowKit Go.Proofs

abbrev encI (n : Int) : Value := .int .i64 n
theorem int64_und : Try.prog.underlying 2 = some (.int .i64) := by kernel_rfl
theorem i64_check (em : Bool) (d : Nat) (a : Int) (w : World) : (Instr.checkKey em (d + 1) 2 (encI a)).run Try.prog w = .ok () w := by
  simp [Instr.checkKey, run_underlying int64_und]
theorem i64_law : KeyLaw Try.prog 2 encI :=
  KeyLaw.of_now int64_und (fun em k w => i64_check em 9999 k w) (fun k k' => by simp only [Instr.sameNow]; by_cases h : k = k' <;> simp [h]) (fun k => by simp [Instr.sameBits])
def reqM (l : List Req) (bs : List Nat) : List (Int × Value) := (l.zip bs).map fun x => (x.1.run, .pointer (some ⟨x.2, 0, none⟩))
abbrev runV (l : List Req) : List Value := (l.map fun r => r.run).map (Value.int .i64)
theorem runV_len (l : List Req) : (runV l).length = l.length := by simp
structure HubAt (w : World) (p m : Nat) (u : Value) (bs : List Nat) (h : HubS) : Prop where
  blk : Blk w p 62 [.int .i64 h.me, .int .i64 h.other, .map (some m), u, .int .i64 h.frm]
  row : w.ownsRow 0 2 1 u h.l.length (runV h.l)
  map : MapAt w m encI (reqM h.l bs)
  len : bs.length = h.l.length
  req : ∀ (i b : Nat) (r : Req), bs[i]? = some b → h.l[i]? = some r → Blk w b 65 r.vals
  nodup : bs.Nodup
  frm : h.frm ≤ h.l.length
  most : h.l.length ≤ 2147483647
/-- what a hub owns -/
def HubF (p m : Nat) (u : Value) (bs : List Nat) (k : Nat) : Prop := k = p ∨ k = m ∨ k ∈ bs ∨ u.ownBlock = some k
section
variable {w w' : World} {p m : Nat} {u : Value} {bs : List Nat} {h : HubS}
theorem HubAt.fr {S : Nat → Prop} (H : HubAt w p m u bs h) (hf : Fr S w w') (hS : ∀ k, HubF p m u bs k → ¬ S k) : HubAt w' p m u bs h :=
  ⟨H.blk.fr hf (hS p (.inl rfl)), own_fr H.row hf (fun k hk => hS k (.inr (.inr (.inr hk)))), H.map.fr hf (hS m (.inr (.inl rfl))), H.len,
   fun i b r hb hr => (H.req i b r hb hr).fr hf (hS b (.inr (.inr (.inl (List.mem_of_getElem? hb))))), H.nodup, H.frm, H.most⟩
theorem HubAt.fr0 (H : HubAt w p m u bs h) (hf : Fr No w w') : HubAt w' p m u bs h := H.fr hf fun _ _ h => h
theorem HubAt.lt (H : HubAt w p m u bs h) : ∀ k, HubF p m u bs k → k < w.heap.size := by
  rintro k (rfl | rfl | hb | hu)
  · exact H.blk.lt
  · exact H.map.lt
  · obtain ⟨i, hi, hib⟩ := List.getElem_of_mem hb
    have hr : h.l[i]? = some (h.l[i]'(by have := H.len; omega)) := List.getElem?_eq_getElem _
    exact (H.req i k _ (by rw [List.getElem?_eq_getElem hi, hib]) hr).lt
  · exact (own_size H.row k hu).2
theorem HubAt.at_ (H : HubAt w p m u bs h) {i : Nat} (hi : i < h.l.length) : ∃ b r, bs[i]? = some b ∧ h.l[i]? = some r ∧ Blk w b 65 r.vals := by
  have hb : bs[i]? = some (bs[i]'(by have := H.len; omega)) := List.getElem?_eq_getElem _
  have hr : h.l[i]? = some h.l[i] := List.getElem?_eq_getElem _
  exact ⟨_, _, hb, hr, H.req i _ _ hb hr⟩
theorem HubAt.row_at (H : HubAt w p m u bs h) {i : Nat} {r : Req} (hr : h.l[i]? = some r) : ∃ g c, u = .slice (some ⟨g, 0, none⟩) h.l.length c ∧ h.l.length ≤ c ∧ g < w.heap.size ∧ w.cell? ⟨g, i, none⟩ = some (.int .i64 r.run) := by
  have hi := (List.getElem?_eq_some_iff.1 hr).1
  have hrow := H.row
  rcases H.row.2 with ⟨_, h0⟩ | ⟨g, cap, cur, rfl, h1, h2, h3, h4, _⟩
  · omega
  · obtain ⟨A, c, he, hc⟩ := own_shape hrow
    injection he with e1 e2 e3
    subst e1 e3
    have hsl := Sl.of_own hrow
    obtain ⟨b, o, hA, hb, hx, _⟩ := hsl.cells (by omega)
    injection hA with hA
    injection hA with hA1 hA2
    subst hA1 hA2
    have := hx i (.int .i64 r.run) (by simp [hr])
    rw [Nat.zero_add] at this
    exact ⟨_, _, rfl, hc, hb, this⟩
end
/-! ### maps of requests -/
theorem reqM_keys {l : List Req} {bs : List Nat} (h : bs.length = l.length) : (reqM l bs).map (·.1) = l.map (·.run) := by
  unfold reqM
  rw [List.map_map]
  have : ((fun x : Int × Value => x.1) ∘ fun x : Req × Nat => (x.1.run, (Value.pointer (some ⟨x.2, 0, none⟩)))) = (fun r : Req => r.run) ∘ Prod.fst := rfl
  rw [this, ← List.map_map, List.map_fst_zip (by omega)]
theorem mget_mem {κ ν : Type} [DecidableEq κ] {k : κ} {v : ν} : ∀ {m : List (κ × ν)}, (m.map (·.1)).Nodup → (k, v) ∈ m → mget k m = some v
  | [], _, h => by cases h
  | (k', v') :: r, hn, h => by
    simp only [List.map_cons, List.nodup_cons] at hn
    simp only [mget]
    by_cases e : k = k'
    · subst e
      rw [if_pos rfl]
      rcases List.mem_cons.1 h with h | h
      · injection h with _ h; rw [h]
      · exact absurd (List.mem_map_of_mem (f := (·.1)) h) hn.1
    · rw [if_neg e]
      rcases List.mem_cons.1 h with h | h
      · injection h with h _; exact absurd h e
      · exact mget_mem hn.2 h
section
variable {w w' : World} {p m : Nat} {u : Value} {bs : List Nat} {h : HubS}
theorem HubAt.get (H : HubAt w p m u bs h) {i b : Nat} {r : Req} (hb : bs[i]? = some b) (hr : h.l[i]? = some r) : mget r.run (reqM h.l bs) = some (.pointer (some ⟨b, 0, none⟩)) := by
  refine mget_mem H.map.1 ?_
  unfold reqM
  exact List.mem_map.2 ⟨(r, b), List.mem_of_getElem? (i := i) (by rw [List.getElem?_zip_eq_some]; exact ⟨hr, hb⟩), rfl⟩
theorem HubAt.get_none (H : HubAt w p m u bs h) {n : Int} (hn : findR n h.l = none) : mget n (reqM h.l bs) = none := by
  rw [mget_none_iff, reqM_keys H.len]
  intro hm
  obtain ⟨r, hr, e⟩ := List.mem_map.1 hm
  have := List.find?_eq_none.1 hn r hr
  simp [e] at this
theorem HubAt.runs (H : HubAt w p m u bs h) : (h.l.map (·.run)).Nodup := by rw [← reqM_keys H.len]; exact H.map.1
theorem ptr_info : (Try.prog.info? 63).map (fun i => (i.zero, i.size, i.bytes)) = some (some (.pointer none), 1, 8) := by kernel_rfl
theorem HubAt.look (H : HubAt w p m u bs h) {i b : Nat} {r : Req} (hb : bs[i]? = some b) (hr : h.l[i]? = some r) : (Instr.lookup 60 (.map (some m)) (.int .i64 r.run) false).run Try.prog w = .ok (.pointer (some ⟨b, 0, none⟩)) w := by
  obtain ⟨i0, hi0, hz0, hz1, hz2⟩ := info_parts ptr_info
  have := run_lookup i64_law (t := 60) (et := 63) (by kernel_rfl) hi0 hz0 H.map r.run false
  rw [H.get hb hr] at this
  exact this
theorem HubAt.look2 (H : HubAt w p m u bs h) {i b : Nat} {r : Req} (hb : bs[i]? = some b) (hr : h.l[i]? = some r) : (Instr.lookup 60 (.map (some m)) (.int .i64 r.run) true).run Try.prog w = .ok (.tuple #[.pointer (some ⟨b, 0, none⟩), .bool true]) w := by
  obtain ⟨i0, hi0, hz0, hz1, hz2⟩ := info_parts ptr_info
  have := run_lookup i64_law (t := 60) (et := 63) (by kernel_rfl) hi0 hz0 H.map r.run true
  rw [H.get hb hr] at this
  exact this
theorem HubAt.look_none (H : HubAt w p m u bs h) {n : Int} (hn : findR n h.l = none) : (Instr.lookup 60 (.map (some m)) (.int .i64 n) true).run Try.prog w = .ok (.tuple #[.pointer none, .bool false]) w := by
  obtain ⟨i0, hi0, hz0, hz1, hz2⟩ := info_parts ptr_info
  have := run_lookup i64_law (t := 60) (et := 63) (by kernel_rfl) hi0 hz0 H.map n true
  rw [H.get_none hn] at this
  exact this
end

/-! ### last -/
theorem lastR_at {l : List Req} (hl : 0 < l.length) {r : Req} (hr : l[l.length - 1]? = some r) : lastR l = r.run := by
  unfold lastR
  rw [List.getLast?_eq_getElem?, hr]
theorem last_any (p m : Nat) (u : Value) (bs : List Nat) (h : HubS) (w : World) (H : HubAt w p m u bs h) :
    Calls Try.prog 24 #[.pointer (some ⟨p, 0, none⟩)] w fun e w' => e = .returned (.int .i64 (lastR h.l)) ∧ Fr No w w' := by
  have c3 := H.blk.cell 3
  have cl := H.blk.lt
  simp only [List.getElem?_cons_zero, List.getElem?_cons_succ] at c3
  have hl0 : (0 : Int) ≤ (h.l.length : Int) := by omega
  have hl1 : (h.l.length : Int) ≤ 2147483647 := by have := H.most; omega
  by_cases h0 : h.l.length = 0
  · obtain ⟨A, c, rfl, hc⟩ := own_shape H.row
    have e : lastR h.l = 0 := by rw [List.eq_nil_of_length_eq_zero h0]; rfl
    rw [e]
    have h0' : (h.l.length : Int) = 0 := by omega
    clear H e
    go_enter Try.func24, Try.ntmps24
    go_wp2
    go_ret
    exact ⟨rfl, Fr.refl _ _⟩
  · obtain ⟨b, r, hb, hr, _⟩ := H.at_ (i := h.l.length - 1) (by omega)
    obtain ⟨g, c, rfl, hc, hg, hcell⟩ := H.row_at hr
    rw [lastR_at (by omega) hr]
    have h1 : (0 : Int) < (h.l.length : Int) := by omega
    have hk : w.cell? ⟨g, ((h.l.length : Int) - 1).toNat, none⟩ = some (.int .i64 r.run) := by
      rw [show ((h.l.length : Int) - 1).toNat = h.l.length - 1 by omega]; exact hcell
    clear H hcell hb hr
    have hk3 : w.cell? ⟨g, h.l.length - 1, none⟩ = some (.int .i64 r.run) := by rw [show h.l.length - 1 = ((h.l.length : Int) - 1).toNat by omega]; exact hk
    have hk1 : 0 < h.l.length := by omega
    have hk4 : (1 : Int) ≤ (h.l.length : Int) := by omega
    have hk2 : (h.l.length : Int) - 1 < (h.l.length : Int) := by omega
    have hkw : IntKind.i64.wrap ((h.l.length : Int) - 1) = (h.l.length : Int) - 1 := IntWalk.i64_in _ (by omega)
    go_enter Try.func24, Try.ntmps24
    go_wp2
    refine wp_region_o [(0, 0), (1, 0), (2, 0), (4, 0), (5, 0), (6, 0), (3, 1), (7, 1), (8, 1), (9, 0), (10, 0), (11, 1), (12, 0)] (by kernel_rfl) (by kernel_rfl) ?_
    repeat (first
      | (apply wpO_pure rfl rfl; (focus (intro w'; go_simp; (try rfl); done)); try simp only [Act.put, List.setIfInBounds_toArray, List.set_cons_zero, List.set_cons_succ])
      | (apply wpO_read rfl rfl; (focus (intro w' hf' hs'; (try simp only [World.size_drew, World.cell?_drew, World.size_alloc, World.size_setCell] at hs'); go_simp; (try rfl); done)); try simp only [Act.put, List.setIfInBounds_toArray, List.set_cons_zero, List.set_cons_succ])
      | (apply wpO_skip (by decide) rfl rfl; try simp only [Act.put, List.setIfInBounds_toArray, List.set_cons_zero, List.set_cons_succ]))
    refine wpO_nil ?_
    go_wp2
    go_ret
    exact ⟨rfl, by (repeat (first | exact Fr.refl _ _ | assumption | refine Fr.drew ?_ | refine Fr.drewL ?_ | refine Fr.alloc ?_ _))⟩

/-! ### Low -/
theorem low_nil (w : World) : Calls Try.prog 13 #[.pointer none] w fun e w' => e = .returned (.int .i64 0) ∧ Fr No w w' := by
  go_enter Try.func13, Try.ntmps13
  go_wp2
  go_ret
  exact ⟨rfl, by (repeat (first | exact Fr.refl _ _ | assumption | refine Fr.drew ?_ | refine Fr.drewL ?_ | refine Fr.alloc ?_ _))⟩
theorem low_any (p m : Nat) (u : Value) (bs : List Nat) (h : HubS) (w : World) (H : HubAt w p m u bs h) (hmx : lastR h.l ≤ 2147483647) (hmn : 0 ≤ lastR h.l) :
    Calls Try.prog 13 #[.pointer (some ⟨p, 0, none⟩)] w fun e w' => e = .returned (.int .i64 h.low) ∧ Fr No w w' := by
  have c3 := H.blk.cell 3
  have c4 := H.blk.cell 4
  have cl := H.blk.lt
  simp only [List.getElem?_cons_zero, List.getElem?_cons_succ] at c3 c4
  have hl0 : (0 : Int) ≤ (h.l.length : Int) := by omega
  have hl1 : (h.l.length : Int) ≤ 2147483647 := by have := H.most; omega
  by_cases h0 : h.frm < h.l.length
  · obtain ⟨b, r, hb, hr, _⟩ := H.at_ h0
    obtain ⟨g, c, rfl, hc, hg, hcell⟩ := H.row_at hr
    have e : h.low = r.run := by unfold HubS.low; rw [hr]
    rw [e]
    have hf0 : (0 : Int) ≤ (h.frm : Int) := by omega
    have hf1 : (h.frm : Int) < (h.l.length : Int) := by omega
    clear H hb hr e
    go_enter Try.func13, Try.ntmps13
    go_wp2
    refine wp_region_o [(0, 0), (1, 0), (2, 0), (4, 0), (5, 0), (6, 0), (3, 1), (7, 1), (8, 1), (9, 0), (10, 0)] (by kernel_rfl) (by kernel_rfl) ?_
    repeat (first
      | (apply wpO_pure rfl rfl; (focus (intro w'; go_simp; (try rfl); done)); try simp only [Act.put, List.setIfInBounds_toArray, List.set_cons_zero, List.set_cons_succ])
      | (apply wpO_read rfl rfl; (focus (intro w' hf' hs'; (try simp only [World.size_drew, World.cell?_drew, World.size_alloc, World.size_setCell] at hs'); go_simp; (try rfl); done)); try simp only [Act.put, List.setIfInBounds_toArray, List.set_cons_zero, List.set_cons_succ])
      | (apply wpO_skip (by decide) rfl rfl; try simp only [Act.put, List.setIfInBounds_toArray, List.set_cons_zero, List.set_cons_succ]))
    refine wpO_nil ?_
    go_wp2
    refine wp_region_o [(0, 0), (1, 0), (2, 0), (4, 0), (5, 0), (6, 0), (3, 1), (7, 1), (8, 0), (9, 1), (10, 0)] (by kernel_rfl) (by kernel_rfl) ?_
    repeat (first
      | (apply wpO_pure rfl rfl; (focus (intro w'; go_simp; (try rfl); done)); try simp only [Act.put, List.setIfInBounds_toArray, List.set_cons_zero, List.set_cons_succ])
      | (apply wpO_read rfl rfl; (focus (intro w' hf' hs'; (try simp only [World.size_drew, World.cell?_drew, World.size_alloc, World.size_setCell] at hs'); go_simp; (try rfl); done)); try simp only [Act.put, List.setIfInBounds_toArray, List.set_cons_zero, List.set_cons_succ])
      | (apply wpO_skip (by decide) rfl rfl; try simp only [Act.put, List.setIfInBounds_toArray, List.set_cons_zero, List.set_cons_succ]))
    refine wpO_nil ?_
    go_wp2
    go_ret
    exact ⟨rfl, by (repeat (first | exact Fr.refl _ _ | assumption | refine Fr.drew ?_ | refine Fr.drewL ?_ | refine Fr.alloc ?_ _))⟩
  · have hn : h.l[h.frm]? = none := List.getElem?_eq_none (by omega)
    have e : h.low = lastR h.l + 1 := by unfold HubS.low; rw [hn]
    rw [e]
    obtain ⟨A, c, rfl, hc⟩ := own_shape H.row
    have hf0 : ¬ (h.frm : Int) < (h.l.length : Int) := by omega
    have HH := Lib.hid H
    obtain ⟨z, hz⟩ : ∃ z, z = lastR h.l := ⟨_, rfl⟩
    rw [← hz] at hmx hmn
    rw [← hz]
    have HZ := Lib.hid hz
    have hw : IntKind.i64.wrap (z + 1) = z + 1 := IntWalk.i64_in _ (by omega)
    clear H e hn hz
    go_enter Try.func13, Try.ntmps13
    go_wp2
    refine wp_region_o [(0, 0), (1, 0), (2, 0), (4, 0), (5, 0), (6, 0), (3, 1), (7, 1), (8, 1), (9, 0), (10, 0)] (by kernel_rfl) (by kernel_rfl) ?_
    repeat (first
      | (apply wpO_pure rfl rfl; (focus (intro w'; go_simp; (try rfl); done)); try simp only [Act.put, List.setIfInBounds_toArray, List.set_cons_zero, List.set_cons_succ])
      | (apply wpO_read rfl rfl; (focus (intro w' hf' hs'; (try simp only [World.size_drew, World.cell?_drew, World.size_alloc, World.size_setCell] at hs'); go_simp; (try rfl); done)); try simp only [Act.put, List.setIfInBounds_toArray, List.set_cons_zero, List.set_cons_succ])
      | (apply wpO_skip (by decide) rfl rfl; try simp only [Act.put, List.setIfInBounds_toArray, List.set_cons_zero, List.set_cons_succ]))
    refine wpO_nil ?_
    go_wp2_with (go_at_call 24; refine (last_any p m _ bs h _ (HH.out.fr0 (by (repeat (first | exact Fr.refl _ _ | assumption | refine Fr.drew ?_ | refine Fr.drewL ?_ | refine Fr.alloc ?_ _))))).mono ?_; rintro e w1 ⟨he, hf1⟩; rw [← HZ.out] at he; obtain rfl := he)
    go_ret
    exact ⟨rfl, Fr.trans (by (repeat (first | exact Fr.refl _ _ | assumption | refine Fr.drew ?_ | refine Fr.drewL ?_ | refine Fr.alloc ?_ _))) hf1⟩
end Go.Proofs.Ytohnchkoldbpcaa

/- A region that draws its order, where two loud operations can come up at once: a first part as in XOrdS, then both orders. -/
namespace Go.Proofs.Ytohnchkoldbpcaa.OS
open Go Go.RowKit

section
variable {S : Nat → Prop} {P : Program} {ops : Array Oper} {Q Q' : Exit → Act → World → Prop} {md : Region.Mode}
theorem lets_mono (h : ∀ e a w, e ≠ .normal → Q e a w → Q' e a w) (hh : LetsOut Q) : LetsOut Q' := by
  obtain ⟨a, w, hh⟩ := hh
  exact ⟨a, w, h _ _ _ (by simp) hh⟩
theorem wp_monoQ {o : Oper} {a : Act} {w : World} {K : Act → World → Prop} (h : ∀ e a w, e ≠ .normal → Q e a w → Q' e a w) (hh : o.wp P a w K Q) : o.wp P a w K Q' := by
  unfold Oper.wp at *
  generalize (execOp a.eval o).run P w = r at *
  cases r with
  | ok n w' =>
    cases n <;> simp only [Oper.upon] at hh ⊢ <;> first | exact hh | skip
    case enter f args =>
      refine Calls.mono hh fun e w'' he => ?_
      cases e with
      | returned u => exact he
      | panicked c => exact h _ _ _ (by simp) he
      | outgrown => exact lets_mono h he
  | halt x w' => cases x <;> simp only [Oper.upon] at hh ⊢ <;> first | exact hh | exact h _ _ _ (by simp) hh

/-- the first part is in order, then the two heads come up, and each order serves -/
def okB (anc : List Nat) (md : Region.Mode) (ops : Array Oper) (tags : List (Nat × Nat)) (i j : Nat) (r1 r2 : List (Nat × Nat)) : List (Nat × Nat) → Array Bool → Bool
  | [], listed => Region.ready md ops listed == [i, j] && (okOrd anc md ops tags r1 (listed.setIfInBounds i true) && okOrd anc md ops tags r2 (listed.setIfInBounds j true))
  | (k, t) :: rest, listed =>
    (match t with
      | 0 => (Region.ready md ops listed).contains k && freeT anc ops tags listed true k
      | 1 => (Region.ready md ops listed).contains k && freeT anc ops tags listed false k
      | _ => Region.ready md ops listed == [k]) && okB anc md ops tags i j r1 r2 rest (listed.setIfInBounds k true)

/-- a first loud step -/
theorem loud_first {anc : List Nat} (hW : ∀ listed, Closed md ops listed → GoodAnc md ops listed anc) {tags : List (Nat × Nat)} (hs : Region.noSelect ops = true) (hQ : ∀ c a w, ¬ Q (.panic c) a w)
    {i t : Nat} {o : Oper} {r : List (Nat × Nat)} {l' : List (Oper × Nat)} {listed : Array Bool} {a : Act} {w : World} (hi : ops[i]? = some o) (hl2 : l'.map (·.2) = r.map (·.2)) (hk' : ∀ k : Nat, (r[k]?).bind (fun x : Nat × Nat => ops[x.1]?) = (l'[k]?).map (·.1))
    (hx' : ∀ x ∈ r, extTag tags x.1 = decide (x.2 < 3)) (hxi : extTag tags i = decide (t < 3)) (ht : 2 ≤ t) (hc : Closed md ops listed) (hmem : i ∈ Region.ready md ops listed) (hok : okOrd anc md ops tags r (listed.setIfInBounds i true) = true)
    (h : wpSt S P ops Q ((o, t) :: l') a w) : wpOp P ops Q i (fun a' w' => (extTag tags i = true → Fr S w w') ∧ wpAnyE S P md ops (extTag tags) Q r.length (listed.setIfInBounds i true) a' w') a w := by
  have loud : ∀ K : Act → World → Prop, (∀ a' w', K a' w' → (extTag tags i = true → Fr S w w') ∧ wpSt S P ops Q l' a' w') →
      (if Region.wanted o (yielded ops a.tmps) = true then o.wp P a w K Q else wpSt S P ops Q l' (a.put o.dst undef) w) → wpOp P ops Q i (fun a' w' => (extTag tags i = true → Fr S w w') ∧ wpAnyE S P md ops (extTag tags) Q r.length (listed.setIfInBounds i true) a' w') a w := by
    intro K hK h3
    unfold wpOp
    simp only [hi]
    split
    · rename_i hw
      rw [if_pos hw] at h3
      exact .inl (Oper.wp_mono (fun a' w' h' => ⟨(hK a' w' h').1, wpAnyE_of_St hW hs hQ r l' _ _ _ hl2 hk' hx' (hc.set hmem) hok (hK a' w' h').2⟩) h3)
    · rename_i hw
      rw [if_neg hw] at h3
      exact ⟨fun _ => Fr.refl _ _, wpAnyE_of_St hW hs hQ r l' _ _ _ hl2 hk' hx' (hc.set hmem) hok h3⟩
  match t, ht, h, hxi with
  | 2, _, h, _ => exact loud _ (fun a' w' h' => ⟨fun _ => h'.1, h'.2⟩) h
  | t + 3, _, h, hxi =>
    have : extTag tags i = false := by rw [hxi]; simp
    exact loud _ (fun a' w' h' => ⟨fun he => (by rw [this] at he; cases he), h'⟩) h

/-- where the first part ends, both go on -/
def Br (S : Nat → Prop) (P : Program) (ops : Array Oper) (Q : Exit → Act → World → Prop) (l1 l2 : List (Oper × Nat)) : Exit → Act → World → Prop
  | .normal, a, w => wpSt S P ops (NoPan Q) l1 a w ∧ wpSt S P ops (NoPan Q) l2 a w
  | e, a, w => Q e a w
theorem br_out {l1 l2 : List (Oper × Nat)} (e : Exit) (a : Act) (w : World) (he : e ≠ .normal) (h : NoPan (Br S P ops Q l1 l2) e a w) : NoPan Q e a w := by
  cases e <;> first | exact absurd rfl he | exact h

def numL (ops : Array Oper) (r : List (Nat × Nat)) : List (Oper × Nat) := r.map fun x => (ops.toList.getD x.1 default, x.2)
theorem numL_tags (r : List (Nat × Nat)) : (numL ops r).map (·.2) = r.map (·.2) := by unfold numL; rw [List.map_map]; rfl
theorem numL_ops {r : List (Nat × Nat)} (hr : ∀ x ∈ r, x.1 < ops.size) (k : Nat) : (r[k]?).bind (fun x : Nat × Nat => ops[x.1]?) = ((numL ops r)[k]?).map (·.1) := by
  unfold numL
  simp only [List.getElem?_map, Option.map_map]
  cases hk : r[k]? with
  | none => rfl
  | some x =>
    have hx := hr x (List.mem_of_getElem? hk)
    simp [hx, List.getD]

theorem wpAnyE_of_B {anc : List Nat} (hW : ∀ listed, Closed md ops listed → GoodAnc md ops listed anc) {tags : List (Nat × Nat)} (hs : Region.noSelect ops = true)
    {i j ti tj : Nat} {r1 r2 : List (Nat × Nat)} (hti : 2 ≤ ti) (htj : 2 ≤ tj) (hlen : r1.length = r2.length) (hb1 : ∀ x ∈ (i, ti) :: r1, x.1 < ops.size ∧ extTag tags x.1 = decide (x.2 < 3)) (hb2 : ∀ x ∈ (j, tj) :: r2, x.1 < ops.size ∧ extTag tags x.1 = decide (x.2 < 3)) :
    ∀ (ord : List (Nat × Nat)) (listed : Array Bool) (a : Act) (w : World), (∀ x ∈ ord, x.1 < ops.size ∧ extTag tags x.1 = decide (x.2 < 3)) → Closed md ops listed → okB anc md ops tags i j r1 r2 ord listed = true →
      wpSt S P ops (NoPan (Br S P ops Q (numL ops ((i, ti) :: r1)) (numL ops ((j, tj) :: r2)))) (numL ops ord) a w → wpAnyE S P md ops (extTag tags) (NoPan Q) (ord.length + (r1.length + 1)) listed a w
  | [], listed, a, w, _, hc, hok, h => by
    simp only [okB, Bool.and_eq_true, beq_iff_eq] at hok
    obtain ⟨hr, hok1, hok2⟩ := hok
    have h' : wpSt S P ops (NoPan Q) (numL ops ((i, ti) :: r1)) a w ∧ wpSt S P ops (NoPan Q) (numL ops ((j, tj) :: r2)) a w := h
    rw [show ([] : List (Nat × Nat)).length + (r1.length + 1) = r1.length + 1 by simp]
    refine ⟨fun h0 => (by rw [h0] at hr; cases hr), fun k hk => ?_⟩
    have hk' := hk
    rw [hr] at hk'
    simp only [List.mem_cons, List.not_mem_nil, or_false] at hk'
    have o1 : ∀ n, n < ops.size → ops[n]? = some (ops.toList.getD n default) := fun n hn => by simp [List.getD, hn]
    rcases hk' with rfl | rfl
    · exact loud_first hW hs (fun c a w h => h) (o1 _ (hb1 _ List.mem_cons_self).1) (numL_tags r1) (numL_ops fun x hx => (hb1 x (List.mem_cons_of_mem _ hx)).1) (fun x hx => (hb1 x (List.mem_cons_of_mem _ hx)).2) (hb1 _ List.mem_cons_self).2 hti hc hk hok1 h'.1
    · rw [hlen]
      exact loud_first hW hs (fun c a w h => h) (o1 _ (hb2 _ List.mem_cons_self).1) (numL_tags r2) (numL_ops fun x hx => (hb2 x (List.mem_cons_of_mem _ hx)).1) (fun x hx => (hb2 x (List.mem_cons_of_mem _ hx)).2) (hb2 _ List.mem_cons_self).2 htj hc hk hok2 h'.2
  | (k, t) :: ord, listed, a, w, hb, hc, hok, h => by
    have hi : ops[k]? = some (ops.toList.getD k default) := by have := (hb _ List.mem_cons_self).1; simp [List.getD, this]
    have hb' : ∀ x ∈ ord, x.1 < ops.size ∧ extTag tags x.1 = decide (x.2 < 3) := fun x hx => hb x (List.mem_cons_of_mem _ hx)
    have hxi : extTag tags k = decide (t < 3) := (hb _ List.mem_cons_self).2
    have hln : ((k, t) :: ord).length + (r1.length + 1) = (ord.length + (r1.length + 1)) + 1 := by simp only [List.length_cons]; omega
    rw [hln]
    generalize hov : ops.toList.getD k default = o at hi
    have h : wpSt S P ops (NoPan (Br S P ops Q (numL ops ((i, ti) :: r1)) (numL ops ((j, tj) :: r2)))) ((o, t) :: numL ops ord) a w := by rw [← hov]; exact h
    have quiet : ∀ pu : Bool, ((Region.ready md ops listed).contains k && freeT anc ops tags listed pu k) = true → okB anc md ops tags i j r1 r2 ord (listed.setIfInBounds k true) = true →
        (∃ v, YieldsT S P ops pu o v a w ∧ wpSt S P ops (NoPan (Br S P ops Q (numL ops ((i, ti) :: r1)) (numL ops ((j, tj) :: r2)))) (numL ops ord) (a.put o.dst v) w) → wpAnyE S P md ops (extTag tags) (NoPan Q) (ord.length + (r1.length + 1) + 1) listed a w := by
      rintro pu h1 h2 ⟨v, hy, hr⟩
      simp only [Bool.and_eq_true] at h1
      have hri : k ∈ Region.ready md ops listed := by simpa using h1.1
      exact wpAnyE_first hW hi (Region.noSelect_spec hs) (fun c a w h => h) _ listed a w hc (freeT_spec hi h1.2) hri hy
        (wpAnyE_of_B hW hs hti htj hlen hb1 hb2 ord _ _ _ hb' (hc.set hri) h2 hr)
    have loud : ∀ K : Act → World → Prop, (∀ a' w', K a' w' → (extTag tags k = true → Fr S w w') ∧ wpSt S P ops (NoPan (Br S P ops Q (numL ops ((i, ti) :: r1)) (numL ops ((j, tj) :: r2)))) (numL ops ord) a' w') →
        (Region.ready md ops listed == [k]) = true → okB anc md ops tags i j r1 r2 ord (listed.setIfInBounds k true) = true →
        (if Region.wanted o (yielded ops a.tmps) = true then o.wp P a w K (NoPan (Br S P ops Q (numL ops ((i, ti) :: r1)) (numL ops ((j, tj) :: r2)))) else wpSt S P ops (NoPan (Br S P ops Q (numL ops ((i, ti) :: r1)) (numL ops ((j, tj) :: r2)))) (numL ops ord) (a.put o.dst undef) w) → wpAnyE S P md ops (extTag tags) (NoPan Q) (ord.length + (r1.length + 1) + 1) listed a w := by
      intro K hK h1 h2 h3
      have hri : Region.ready md ops listed = [k] := by simpa using h1
      refine ⟨fun h => (by rw [h] at hri; cases hri), fun j' hj => ?_⟩
      have hmem0 := hj
      rw [hri] at hj
      obtain rfl : j' = k := by simpa using hj
      unfold wpOp
      simp only [hi]
      split
      · rename_i hw
        rw [if_pos hw] at h3
        exact .inl (wp_monoQ (fun e a w he h => br_out e a w he h) (Oper.wp_mono (fun a' w' h' => ⟨(hK a' w' h').1, wpAnyE_of_B hW hs hti htj hlen hb1 hb2 ord _ _ _ hb' (hc.set hmem0) h2 (hK a' w' h').2⟩) h3))
      · rename_i hw
        rw [if_neg hw] at h3
        exact ⟨fun _ => Fr.refl _ _, wpAnyE_of_B hW hs hti htj hlen hb1 hb2 ord _ _ _ hb' (hc.set hmem0) h2 h3⟩
    match t, hok, h, hxi with
    | 0, hok, h, _ =>
      simp only [okB, Bool.and_eq_true] at hok
      exact quiet true (by simpa using hok.1) hok.2 h
    | 1, hok, h, _ =>
      simp only [okB, Bool.and_eq_true] at hok
      exact quiet false (by simpa using hok.1) hok.2 h
    | 2, hok, h, _ =>
      simp only [okB, Bool.and_eq_true] at hok
      exact loud _ (fun a' w' h' => ⟨fun _ => h'.1, h'.2⟩) hok.1 hok.2 h
    | t + 3, hok, h, hxi =>
      simp only [okB, Bool.and_eq_true] at hok
      have : extTag tags k = false := by rw [hxi]; simp
      exact loud _ (fun a' w' h' => ⟨fun he => (by rw [this] at he; cases he), h'⟩) hok.1 hok.2 h

/-- all that is to be looked at -/
def okRegionB (ops : Array Oper) (pre : List (Nat × Nat)) (i ti j tj : Nat) (r1 r2 : List (Nat × Nat)) : Bool :=
  Region.noSelect ops && okB (ancs .any ops.toList []) .any ops (pre ++ (i, ti) :: r1) i j r1 r2 pre (Array.replicate ops.size false) && decide (2 ≤ ti) && decide (2 ≤ tj) && (r1.length == r2.length) && (pre.length + (r1.length + 1) == ops.size) &&
  (pre ++ (i, ti) :: r1 ++ (j, tj) :: r2).all fun x => decide (x.1 < ops.size) && (extTag (pre ++ (i, ti) :: r1) x.1 == decide (x.2 < 3))
/-- what is left, where the first part has been walked: both orders -/
def BrO (S : Nat → Prop) (P : Program) (lo : List Oper) (Q : Exit → Act → World → Prop) (o1 o2 : List (Nat × Nat)) : Exit → Act → World → Prop := Br S P lo.toArray Q (numL lo.toArray o1) (numL lo.toArray o2)
theorem brO_normal {lo : List Oper} {o1 o2 : List (Nat × Nat)} {a : Act} {w : World} (h1 : wpO S P lo Q o1 a w) (h2 : wpO S P lo Q o2 a w) : BrO S P lo Q o1 o2 .normal a w := by
  unfold wpO at h1 h2
  exact ⟨h1, h2⟩
theorem wp_region_b (S : Nat → Prop) {P : Program} {Q : Exit → Act → World → Prop} {id : Nat} {a : Act} {w : World} (pre : List (Nat × Nat)) (i ti j tj : Nat) (r1 r2 : List (Nat × Nat)) {lo : List Oper} (hm : P.follows .mixedOrders = true)
    (hB : okRegionB lo.toArray pre i ti j tj r1 r2 = true)
    (h : wpO S P lo (BrO S P lo Q ((i, ti) :: r1) ((j, tj) :: r2)) pre a w.drew) : (Code.region id lo.toArray true).wp P Q a w := by
  simp only [okRegionB, Bool.and_eq_true, beq_iff_eq, List.all_eq_true, decide_eq_true_eq, List.mem_append] at hB
  obtain ⟨⟨⟨⟨⟨⟨hs, hok⟩, hti⟩, htj⟩, hlen⟩, hsz⟩, hall⟩ := hB
  unfold wpO at h
  have h1 : (Code.region id lo.toArray true).wp P (NoPan Q) a w := by
    refine wp_region_any hm (wpAny_of_E (S := S) _ _ _ _ (ext := extTag (pre ++ (i, ti) :: r1)) ?_)
    rw [← hsz]
    refine wpAnyE_of_B (fun _ hc => ancs_ok hc) hs hti htj hlen (fun x hx => hall x (.inl (.inr hx))) (fun x hx => hall x (.inr hx)) pre _ _ _ (fun x hx => hall x (.inl (.inl hx))) ?_ (by simpa [hsz] using hok) h
    intro j o ho hj
    exfalso
    simp only [Array.getD_eq_getD_getElem?, Array.getElem?_replicate] at hj
    split at hj <;> simp at hj
  refine Code.wp_mono ?_ h1
  intro e a w h
  cases e <;> first | exact h | exact h.elim
end
end Go.Proofs.Ytohnchkoldbpcaa.OS

namespace Go.Proofs.Ytohnchkoldbpcaa
open Go Go.RowKit
section
variable {P : Program} {lo : List Oper} {Q : Exit → Act → World → Prop} {a : Act} {w : World}
theorem wp_region_b {id : Nat} (pre : List (Nat × Nat)) (i ti j tj : Nat) (r1 r2 : List (Nat × Nat)) (hm : P.follows .mixedOrders = true) (hB : OS.okRegionB lo.toArray pre i ti j tj r1 r2 = true)
    (h : wpO P lo (OS.BrO No P lo Q ((i, ti) :: r1) ((j, tj) :: r2)) pre a w.drew) : (Code.region id lo.toArray true).wp P Q a w := OS.wp_region_b No pre i ti j tj r1 r2 hm hB (by unfold wpO at h; exact h)
theorem br_both {o1 o2 : List (Nat × Nat)} (h1 : wpO P lo Q o1 a w) (h2 : wpO P lo Q o2 a w) : wpO P lo (OS.BrO No P lo Q o1 o2) [] a w :=
  wpO_nil (OS.brO_normal (by unfold wpO at h1; exact h1) (by unfold wpO at h2; exact h2))
end
end Go.Proofs.Ytohnchkoldbpcaa

/- agent: Open, start. -/
namespace Go.Proofs.Ytohnchkoldbpcaa
open Go Go.RowKit Go.Proofs

theorem i64_info : (Try.prog.info? 2).map (fun i => (i.zero, i.size, i.bytes)) = some (some (.int .i64 0), 1, 8) := by kernel_rfl
theorem slice_i64 {A : Option Addr} {n c : Nat} (kl : IntKind) (lo : Nat) (h1 : lo ≤ n) (h2 : n ≤ c) (w : World) :
    (Instr.slice 51 (.slice A n c) (some (.int kl (lo : Int))) none none).run Try.prog w = .ok (.slice (if c = lo then A else A.map (·.add (lo * 1))) (n - lo) (c - lo)) w := by
  obtain ⟨i, hi', hz, hs, hb⟩ := info_parts i64_info
  rw [run_slice_l (P := Try.prog) (w := w) 51 A n c (by kernel_rfl) kl lo (by omega) (by omega)]
  have e5 : Try.prog.elem 51 = 2 := by kernel_rfl
  rw [e5]
  simp [sizeOf, typeInfo, hi', hs, sliced]
theorem fr_cell {S : Nat → Prop} {w : World} {g i : Nat} {v : Value} (h : S g) : Fr S w (w.setCell ⟨g, i, none⟩ v) := (Fr.refl S w).setCell (.inl h) v
/-! ### Open -/
def notDone (l : List Req) : Nat := (l.filter fun r => r.state != 2).length
theorem notDone_snoc (l : List Req) (r : Req) : notDone (l ++ [r]) = if r.state = 2 then notDone l else notDone l + 1 := by
  unfold notDone
  rw [List.filter_append, List.length_append]
  by_cases h : r.state = 2 <;> simp [h]
theorem notDone_le (l : List Req) : notDone l ≤ l.length := List.length_filter_le _ _
def OpRel (w : World) (p m : Nat) (u : Value) (bs : List Nat) (h : HubS) (g : Nat) (v3 v19 : Value) (wr : World) : Prop :=
  ∃ i : Nat, i + g = h.l.length - h.frm ∧ v19 = .int .i64 i ∧ v3 = .int .i64 (notDone ((h.l.drop h.frm).take i)) ∧ HubAt wr p m u bs h ∧ Fr No w wr
theorem open_nil (w : World) : Calls Try.prog 12 #[.pointer none] w fun e w' => e = .returned (.int .i64 0) ∧ Fr No w w' := by
  go_enter Try.func12, Try.ntmps12
  go_wp2
  go_ret
  exact ⟨rfl, by (repeat (first | exact Fr.refl _ _ | assumption | refine Fr.drew ?_ | refine Fr.drewL ?_ | refine Fr.alloc ?_ _))⟩
set_option maxRecDepth 100000 in
theorem openN_any (p m : Nat) (u : Value) (bs : List Nat) (h : HubS) (w : World) (H : HubAt w p m u bs h) :
    Calls Try.prog 12 #[.pointer (some ⟨p, 0, none⟩)] w fun e w' => e = .returned (.int .i64 (h.openN : Int)) ∧ Fr No w w' := by
  have c3 := H.blk.cell 3
  have c4 := H.blk.cell 4
  have cl := H.blk.lt
  simp only [List.getElem?_cons_zero, List.getElem?_cons_succ] at c3 c4
  have hl0 : (0 : Int) ≤ (h.l.length : Int) := by omega
  have hl1 : (h.l.length : Int) ≤ 2147483647 := by have := H.most; omega
  obtain ⟨A, c, rfl, hc⟩ := own_shape H.row
  have hsl := slice_i64 (A := A) .i64 h.frm H.frm hc
  have HS := Lib.hid ((Sl.of_own H.row).drop H.frm hc)
  obtain ⟨B, hB⟩ : ∃ B, B = (if c = h.frm then A else A.map (·.add (h.frm * 1))) := ⟨_, rfl⟩
  rw [← hB] at HS hsl
  have HH := Lib.hid H
  have hf0 : (0 : Int) ≤ (h.frm : Int) := by omega
  obtain ⟨N, hN⟩ : ∃ N, N = h.l.length - h.frm := ⟨_, rfl⟩
  have HNN := Lib.hid hN
  have HFL := Lib.hid H.frm
  rw [← hN] at HS hsl
  have hN0 : (0 : Int) ≤ (N : Int) := by omega
  have hN1 : (N : Int) ≤ 2147483647 := by omega
  clear H hB hN
  go_enter Try.func12, Try.ntmps12
  go_wp2
  refine wp_region_o [(0, 0), (1, 0), (2, 0), (4, 0), (5, 0), (6, 0), (10, 0), (3, 1), (7, 1), (8, 0), (9, 1)] (by kernel_rfl) (by kernel_rfl) ?_
  repeat (first
    | (apply wpO_pure rfl rfl; (focus (intro w'; go_simp; (try rfl); done)); try simp only [Act.put, List.setIfInBounds_toArray, List.set_cons_zero, List.set_cons_succ])
    | (apply wpO_read rfl rfl; (focus (intro w' hf' hs'; (try simp only [World.size_drew, World.cell?_drew, World.size_alloc, World.size_setCell] at hs'); go_simp; (try rfl); done)); try simp only [Act.put, List.setIfInBounds_toArray, List.set_cons_zero, List.set_cons_succ])
    | (apply wpO_skip (by decide) rfl rfl; try simp only [Act.put, List.setIfInBounds_toArray, List.set_cons_zero, List.set_cons_succ]))
  refine wpO_nil ?_
  go_wp2
  go_loopg [3, 19] N (fun g v3 v19 wr => OpRel w p m (.slice A h.l.length c) bs h g v3 v19 wr)
  case atStart => exact ⟨0, by have := HNN.out; omega, rfl, rfl, HH.out.fr0 (by (repeat (first | exact Fr.refl _ _ | assumption | refine Fr.drew ?_ | refine Fr.drewL ?_ | refine Fr.alloc ?_ _))), by (repeat (first | exact Fr.refl _ _ | assumption | refine Fr.drew ?_ | refine Fr.drewL ?_ | refine Fr.alloc ?_ _))⟩
  case round =>
    obtain ⟨i, hgi, rfl, rfl, hH, hF⟩ := hrel
    have HH1 := Lib.hid hH
    have HF1 := Lib.hid hF
    have hi0 : (0 : Int) ≤ (i : Int) := by omega
    rw [← HNN.out] at hgi
    obtain ⟨z, hz⟩ : ∃ z, z = notDone ((h.l.drop h.frm).take i) := ⟨_, rfl⟩
    rw [← hz]
    have HZ := Lib.hid hz
    have hz0 : (0 : Int) ≤ (z : Int) := by omega
    have hz1 : (z : Int) ≤ 2147483647 := by
      have h1 := notDone_le ((h.l.drop h.frm).take i)
      rw [List.length_take] at h1
      omega
    clear hH hF hz
    by_cases hi : i < N
    · have hi1 : (i : Int) < (N : Int) := by omega
      obtain ⟨b, r, hb, hr, hblk⟩ := HH1.out.at_ (i := h.frm + i) (by have := HNN.out; omega)
      have hsl2 := HS.out.fr0 HF1.out
      have hd : (h.l.map fun r => r.run).drop h.frm = (h.l.drop h.frm).map fun r => r.run := by rw [List.map_drop]
      rw [Nat.mul_one, ← List.map_drop, hd, HNN.out, ← List.length_drop, ← List.length_map (f := fun r : Req => r.run)] at hsl2
      obtain ⟨g1, o1, hBB, hg1, k1⟩ := ints_at hsl2 (k := i) (x := r.run) (by rw [List.getElem?_map, List.getElem?_drop, hr]; rfl)
      subst hBB
      have d1 := HH1.out.blk.cell 2
      have d2 := HH1.out.blk.lt
      have l1 := HH1.out.look hb hr
      have r0 := hblk.cell 0
      have r1 := hblk.lt
      simp only [List.getElem?_cons_zero, List.getElem?_cons_succ] at d1 r0
      have HR := Lib.hid (show (h.l.drop h.frm).take (i + 1) = (h.l.drop h.frm).take i ++ [r] by rw [List.take_add_one, List.getElem?_drop, hr]; rfl)
      clear hsl2 hd hblk
      by_cases h2 : r.state = 2
      · have HQ := Lib.hid h2
        rw [h2] at r0
        clear h2
        go_wp2
        go_roundg (N - (i + 1))
        case measure => omega
        case rel => exact ⟨i + 1, by have := HNN.out; omega, by go_num, by rw [HR.out, notDone_snoc, if_pos HQ.out, ← HZ.out], HH1.out, HF1.out⟩
      · have HQ := Lib.hid h2
        have h3 : (r.state == 2) = false := by simpa using h2
        clear h2
        go_wp2
        go_roundg (N - (i + 1))
        case measure => omega
        case rel => exact ⟨i + 1, by have := HNN.out; omega, by go_num, by rw [HR.out, notDone_snoc, if_neg HQ.out, ← HZ.out]; go_num, HH1.out, HF1.out⟩
    · obtain rfl : i = N := by omega
      have hzz : z = h.openN := by
        have := HZ.out
        rw [List.take_of_length_le (by rw [List.length_drop]; have := HNN.out; omega)] at this
        exact this
      have HZZ := Lib.hid hzz
      clear hzz
      go_wp2
      go_ret
      exact ⟨by rw [HZZ.out]; rfl, HF1.out⟩

/-! ### start -/
theorem start_res {tmps : Array Value} {w : World} {g : Nat} {x : Msg} (h : Blk w g 26 x.vals) (h8 : tmps.getD 4 undef = .pointer (some ⟨g, 0, none⟩)) :
    (results Try.f25 tmps).run Try.prog w = .ok x.val w := by
  obtain ⟨r0, r1, r2, r3, r4, r5, r6, r7⟩ := h.cells8
  simp only [Array.getD_eq_getD_getElem?] at h8
  simp [results, Try.results25, go_sem, h8, r0, r1, r2, r3, r4, r5, r6, r7]
set_option maxRecDepth 100000 in
set_option maxHeartbeats 1000000 in
theorem start_any (p m : Nat) (u : Value) (bs : List Nat) (h : HubS) (w : World) (H : HubAt w p m u bs h) (hmx : lastR h.l ≤ 2147483647) (hmn : 0 ≤ lastR h.l) {i b : Nat} {r : Req} (hb : bs[i]? = some b) (hr : h.l[i]? = some r) :
    Calls Try.prog 25 #[.pointer (some ⟨p, 0, none⟩), .int .i64 r.run] w fun e w' => e = .returned (startM h r).val ∧ Fr No w w' := by
  have HH := Lib.hid H
  have HH1 := Lib.hid (H.fr0 ((Fr.refl No w).alloc (Obj.cells zeroMsg.vals.toArray 26)))
  have HB0 := Lib.hid (Blk.new w 26 zeroMsg.vals)
  have HBI := Lib.hid hb
  have HRI := Lib.hid hr
  have d0 := H.blk.cell 0
  have d1 := H.blk.cell 1
  have d2 := H.blk.cell 2
  have d3 := H.blk.lt
  have l1 : ∀ o, (Instr.lookup 60 (.map (some m)) (.int .i64 r.run) false).run Try.prog (w.alloc o) = .ok (.pointer (some ⟨b, 0, none⟩)) (w.alloc o) := fun o => (H.fr0 ((Fr.refl No w).alloc o)).look hb hr
  have hblk := H.req i b r hb hr
  have r2 := hblk.cell 2
  have r4 := hblk.lt
  simp only [List.getElem?_cons_zero, List.getElem?_cons_succ] at d0 d1 d2 r2
  have HMX := Lib.hid hmx
  have HMN := Lib.hid hmn
  clear H hb hr hblk hmx hmn
  go_enter Try.func25, Try.ntmps25
  go_wp2
  refine wp_region_b [(0, 0), (1, 0), (2, 0), (4, 0), (5, 0), (6, 0), (7, 0), (3, 1), (8, 1)] 9 2 10 2 [(10, 2), (11, 3)] [(9, 2), (11, 3)] (by kernel_rfl) (by kernel_rfl) ?_
  repeat (first
    | (apply wpO_pure rfl rfl; (focus (intro w'; go_simp; (try rfl); done)); try simp only [Act.put, List.setIfInBounds_toArray, List.set_cons_zero, List.set_cons_succ])
    | (apply wpO_read rfl rfl; (focus (intro w' hf' hs'; (try simp only [World.size_drew, World.cell?_drew, World.size_alloc, World.size_setCell] at hs'); go_simp; (try rfl); done)); try simp only [Act.put, List.setIfInBounds_toArray, List.set_cons_zero, List.set_cons_succ])
    | (apply wpO_skip (by decide) rfl rfl; try simp only [Act.put, List.setIfInBounds_toArray, List.set_cons_zero, List.set_cons_succ]))
  refine br_both ?_ ?_
  · skip
    refine wpO_loudE rfl fun K hK => ?_
    go_simp
    refine (say_any _ _ _ _ _ _).mono ?_
    rintro e w1 ⟨rfl, hf1⟩
    refine hK _ _ ⟨hf1, ?_⟩
    clear hK K
    have HF1 := Lib.hid (((Fr.refl No w).alloc (Obj.cells zeroMsg.vals.toArray 26)).drew.trans hf1)
    refine wpO_loudE rfl fun K hK => ?_
    go_simp
    refine hK _ _ ⟨by (repeat (first | exact Fr.refl _ _ | assumption | refine Fr.drew ?_ | refine Fr.drewL ?_ | refine Fr.alloc ?_ _)), ?_⟩
    clear hK K
    repeat (first
      | (apply wpO_pure rfl rfl; (focus (intro w'; go_simp; (try rfl); done)); try simp only [Act.put, List.setIfInBounds_toArray, List.set_cons_zero, List.set_cons_succ])
      | (apply wpO_read rfl rfl; (focus (intro w' hf' hs'; (try simp only [World.size_drew, World.cell?_drew, World.size_alloc, World.size_setCell] at hs'); go_simp; (try rfl); done)); try simp only [Act.put, List.setIfInBounds_toArray, List.set_cons_zero, List.set_cons_succ])
      | (apply wpO_skip (by decide) rfl rfl; try simp only [Act.put, List.setIfInBounds_toArray, List.set_cons_zero, List.set_cons_succ]))
    refine wpO_loud rfl fun K hK => ?_
    go_simp
    refine hK _ _ ?_
    clear hK K
    repeat (first
      | (apply wpO_pure rfl rfl; (focus (intro w'; go_simp; (try rfl); done)); try simp only [Act.put, List.setIfInBounds_toArray, List.set_cons_zero, List.set_cons_succ])
      | (apply wpO_read rfl rfl; (focus (intro w' hf' hs'; (try simp only [World.size_drew, World.cell?_drew, World.size_alloc, World.size_setCell] at hs'); go_simp; (try rfl); done)); try simp only [Act.put, List.setIfInBounds_toArray, List.set_cons_zero, List.set_cons_succ])
      | (apply wpO_skip (by decide) rfl rfl; try simp only [Act.put, List.setIfInBounds_toArray, List.set_cons_zero, List.set_cons_succ]))
    refine wpO_nil ?_
    generalize hW2 : World.alloc w1 _ = W2
    have HFx : Hid (Fr No w W2) := Lib.hid (by subst hW2; exact HF1.out.alloc _)
    have HHx := Lib.hid (HH.out.fr0 HFx.out)
    have HGx : Hid (Blk W2 w1.heap.size 26 (sayM h.me h.other 1 r.run r.code).vals) := Lib.hid (by subst hW2; exact Blk.new _ _ _)
    have HRx : Hid (Blk W2 w.heap.size 26 zeroMsg.vals) := Lib.hid (by subst hW2; exact ((HB0.out.drew.fr hf1 (fun h => h)).alloc _))
    have hgg : w.heap.size < w1.heap.size := by have := hf1.size; simp only [World.size_drew, World.size_alloc] at this; omega
    clear hf1 hW2
    have g0 := HGx.out.cells8
    have g8 := HGx.out.lt
    have g9 := HGx.out.frozens
    obtain ⟨g0, g1, g2, g3, g4, g5, g6, g7⟩ := g0
    have s0 := HRx.out.cells8
    have s8 := HRx.out.lt
    have s9 := HRx.out.frozens
    obtain ⟨s0, s1, s2, s3, s4, s5, s6, s7⟩ := s0
    have hblk2 := HHx.out.req i b r HBI.out HRI.out
    have e1 := hblk2.cell 1
    have e3 := hblk2.cell 3
    have e4 := hblk2.lt
    simp only [List.getElem?_cons_zero, List.getElem?_cons_succ] at e1 e3
    have nb : ¬ b = w1.heap.size := fun e => HGx.out.ne_ hblk2 (by decide) e.symm
    clear hblk2 d0 d1 d2 d3 r2 r4 l1
    go_wp2
    refine OS.wp_region_o (fun k => k = w1.heap.size) [(0, 0), (2, 0), (3, 0), (4, 0), (6, 0), (7, 0), (8, 0), (5, 1), (9, 1), (1, 2), (10, 0), (11, 2), (12, 0), (13, 2), (14, 0), (15, 2)] (by kernel_rfl) (by kernel_rfl) ?_
    repeat (first
      | (apply OS.wpO_pure rfl rfl; (focus (intro w'; go_simp; (try rfl); done)); try simp only [Act.put, List.setIfInBounds_toArray, List.set_cons_zero, List.set_cons_succ])
      | (apply OS.wpO_read rfl rfl; (focus (intro w' hf' hs'; (try simp only [World.size_drew, World.cell?_drew, World.size_alloc, World.size_setCell, not_false_eq_true, forall_const] at hs'); go_simp; (try rfl); done)); try simp only [Act.put, List.setIfInBounds_toArray, List.set_cons_zero, List.set_cons_succ])
      | (apply OS.wpO_skip (by decide) rfl rfl; try simp only [Act.put, List.setIfInBounds_toArray, List.set_cons_zero, List.set_cons_succ]))
    refine OS.wpO_loudE rfl fun K hK => ?_
    go_simp
    refine (low_any p m u bs h _ (HHx.out.fr0 (by (repeat (first | exact Fr.refl _ _ | assumption | refine Fr.drew ?_ | refine Fr.drewL ?_ | refine Fr.alloc ?_ _)))) HMX.out HMN.out).mono ?_
    rintro e w3 ⟨rfl, hf3⟩
    refine hK _ _ ⟨hf3.any _, ?_⟩
    clear hK K
    clear g0 g1 g2 g3 g4 g5 g6 g7 g8 g9 s0 s1 s2 s3 s4 s5 s6 s7 s8 s9 e1 e3 e4
    have HG3 := Lib.hid (HGx.out.drew.fr hf3 (fun h => h))
    have HR3 := Lib.hid (HRx.out.drew.fr hf3 (fun h => h))
    obtain ⟨g0, g1, g2, g3, g4, g5, g6, g7⟩ := HG3.out.cells8
    have g8 := HG3.out.lt
    have g9 := HG3.out.frozens
    obtain ⟨s0, s1, s2, s3, s4, s5, s6, s7⟩ := HR3.out.cells8
    have s8 := HR3.out.lt
    have s9 := HR3.out.frozens
    repeat (first
      | (apply OS.wpO_pure rfl rfl; (focus (intro w'; go_simp; (try rfl); done)); try simp only [Act.put, List.setIfInBounds_toArray, List.set_cons_zero, List.set_cons_succ])
      | (apply OS.wpO_read rfl rfl; (focus (intro w' hf' hs'; (try simp only [World.size_drew, World.cell?_drew, World.size_alloc, World.size_setCell, not_false_eq_true, forall_const] at hs'); go_simp; (try rfl); done)); try simp only [Act.put, List.setIfInBounds_toArray, List.set_cons_zero, List.set_cons_succ])
      | (apply OS.wpO_skip (by decide) rfl rfl; try simp only [Act.put, List.setIfInBounds_toArray, List.set_cons_zero, List.set_cons_succ]))
    refine OS.wpO_loudE rfl fun K hK => ?_
    go_simp
    refine hK _ _ ⟨fr_cell rfl, ?_⟩
    clear hK K
    repeat (first
      | (apply OS.wpO_pure rfl rfl; (focus (intro w'; go_simp; (try rfl); done)); try simp only [Act.put, List.setIfInBounds_toArray, List.set_cons_zero, List.set_cons_succ])
      | (apply OS.wpO_read rfl rfl; (focus (intro w' hf' hs'; (try simp only [World.size_drew, World.cell?_drew, World.size_alloc, World.size_setCell, not_false_eq_true, forall_const] at hs'); go_simp; (try rfl); done)); try simp only [Act.put, List.setIfInBounds_toArray, List.set_cons_zero, List.set_cons_succ])
      | (apply OS.wpO_skip (by decide) rfl rfl; try simp only [Act.put, List.setIfInBounds_toArray, List.set_cons_zero, List.set_cons_succ]))
    refine OS.wpO_loudE rfl fun K hK => ?_
    go_simp
    refine hK _ _ ⟨fr_cell rfl, ?_⟩
    clear hK K
    repeat (first
      | (apply OS.wpO_pure rfl rfl; (focus (intro w'; go_simp; (try rfl); done)); try simp only [Act.put, List.setIfInBounds_toArray, List.set_cons_zero, List.set_cons_succ])
      | (apply OS.wpO_read rfl rfl; (focus (intro w' hf' hs'; (try simp only [World.size_drew, World.cell?_drew, World.size_alloc, World.size_setCell, not_false_eq_true, forall_const] at hs'); go_simp; (try rfl); done)); try simp only [Act.put, List.setIfInBounds_toArray, List.set_cons_zero, List.set_cons_succ])
      | (apply OS.wpO_skip (by decide) rfl rfl; try simp only [Act.put, List.setIfInBounds_toArray, List.set_cons_zero, List.set_cons_succ]))
    refine OS.wpO_loudE rfl fun K hK => ?_
    go_simp
    refine hK _ _ ⟨fr_cell rfl, ?_⟩
    clear hK K
    repeat (first
      | (apply OS.wpO_pure rfl rfl; (focus (intro w'; go_simp; (try rfl); done)); try simp only [Act.put, List.setIfInBounds_toArray, List.set_cons_zero, List.set_cons_succ])
      | (apply OS.wpO_read rfl rfl; (focus (intro w' hf' hs'; (try simp only [World.size_drew, World.cell?_drew, World.size_alloc, World.size_setCell, not_false_eq_true, forall_const] at hs'); go_simp; (try rfl); done)); try simp only [Act.put, List.setIfInBounds_toArray, List.set_cons_zero, List.set_cons_succ])
      | (apply OS.wpO_skip (by decide) rfl rfl; try simp only [Act.put, List.setIfInBounds_toArray, List.set_cons_zero, List.set_cons_succ]))
    refine OS.wpO_nil ?_
    go_wp2
    have hF3 : Fr No w w3 := HFx.out.drew.trans hf3
    exact bodyPost_ret (v := (startM h r).val) (start_res (x := startM h r) ((((HR3.out.far (p := ⟨w1.heap.size, 4, none⟩) (by show ¬ w.heap.size = w1.heap.size; omega) _).far (p := ⟨w1.heap.size, 5, none⟩) (by show ¬ w.heap.size = w1.heap.size; omega) _).far (p := ⟨w1.heap.size, 7, none⟩) (by show ¬ w.heap.size = w1.heap.size; omega) _).set8 (startM h r)) rfl) rfl
      ⟨rfl, (((hF3.setCell (p := ⟨w1.heap.size, 4, none⟩) (.inr (by show w.heap.size ≤ w1.heap.size; omega)) _).setCell (p := ⟨w1.heap.size, 5, none⟩) (.inr (by show w.heap.size ≤ w1.heap.size; omega)) _).setCell (p := ⟨w1.heap.size, 7, none⟩) (.inr (by show w.heap.size ≤ w1.heap.size; omega)) _).set8 (.inr (Nat.le_refl _)) (startM h r)⟩
  · skip
    refine wpO_loudE rfl fun K hK => ?_
    go_simp
    refine hK _ _ ⟨by (repeat (first | exact Fr.refl _ _ | assumption | refine Fr.drew ?_ | refine Fr.drewL ?_ | refine Fr.alloc ?_ _)), ?_⟩
    clear hK K
    repeat (first
      | (apply wpO_pure rfl rfl; (focus (intro w'; go_simp; (try rfl); done)); try simp only [Act.put, List.setIfInBounds_toArray, List.set_cons_zero, List.set_cons_succ])
      | (apply wpO_read rfl rfl; (focus (intro w' hf' hs'; (try simp only [World.size_drew, World.cell?_drew, World.size_alloc, World.size_setCell] at hs'); go_simp; (try rfl); done)); try simp only [Act.put, List.setIfInBounds_toArray, List.set_cons_zero, List.set_cons_succ])
      | (apply wpO_skip (by decide) rfl rfl; try simp only [Act.put, List.setIfInBounds_toArray, List.set_cons_zero, List.set_cons_succ]))
    refine wpO_loudE rfl fun K hK => ?_
    go_simp
    refine (say_any _ _ _ _ _ _).mono ?_
    rintro e w1 ⟨rfl, hf1⟩
    refine hK _ _ ⟨hf1, ?_⟩
    clear hK K
    have HG := Lib.hid ((Blk.new (w.alloc (Obj.cells zeroMsg.vals.toArray 26)).drew 26 zeroMsg.vals).fr hf1 (fun h => h))
    obtain ⟨q0, q1, q2, q3, q4, q5, q6, q7⟩ := HG.out.cells8
    have q8 := HG.out.lt
    have q9 := HG.out.frozens
    simp only [World.size_drew, World.size_alloc] at q0 q1 q2 q3 q4 q5 q6 q7 q8 q9
    refine wpO_loud rfl fun K hK => ?_
    go_simp
    refine hK _ _ ?_
    clear hK K
    repeat (first
      | (apply wpO_pure rfl rfl; (focus (intro w'; go_simp; (try rfl); done)); try simp only [Act.put, List.setIfInBounds_toArray, List.set_cons_zero, List.set_cons_succ])
      | (apply wpO_read rfl rfl; (focus (intro w' hf' hs'; (try simp only [World.size_drew, World.cell?_drew, World.size_alloc, World.size_setCell] at hs'); go_simp; (try rfl); done)); try simp only [Act.put, List.setIfInBounds_toArray, List.set_cons_zero, List.set_cons_succ])
      | (apply wpO_skip (by decide) rfl rfl; try simp only [Act.put, List.setIfInBounds_toArray, List.set_cons_zero, List.set_cons_succ]))
    refine wpO_nil ?_
    generalize hW2 : World.setCell _ _ _ = W2
    have HFx : Hid (Fr No w W2) := Lib.hid (by subst hW2; exact ((((((Fr.refl No w).alloc _).drew).alloc _).trans hf1).set8 (.inr (Nat.le_succ _)) (sayM h.me h.other 1 r.run r.code)))
    have HHx := Lib.hid (HH.out.fr0 HFx.out)
    have HGx : Hid (Blk W2 (w.heap.size + 1) 26 (sayM h.me h.other 1 r.run r.code).vals) := Lib.hid (by subst hW2; have := HG.out.set8 (sayM h.me h.other 1 r.run r.code); simp only [World.size_drew, World.size_alloc] at this; exact this)
    have HRx : Hid (Blk W2 w.heap.size 26 zeroMsg.vals) := Lib.hid (by subst hW2; exact ((HB0.out.drew.alloc _).fr hf1 (fun h => h)).fr (Fr.set8 (S := fun k => k = w.heap.size + 1) (Fr.refl _ w1) (g := w.heap.size + 1) (.inl rfl) (sayM h.me h.other 1 r.run r.code)) (by omega))
    have hgg : w.heap.size < w.heap.size + 1 := by omega
    clear hf1 hW2 HG q0 q1 q2 q3 q4 q5 q6 q7 q8 q9
    have g0 := HGx.out.cells8
    have g8 := HGx.out.lt
    have g9 := HGx.out.frozens
    obtain ⟨g0, g1, g2, g3, g4, g5, g6, g7⟩ := g0
    have s0 := HRx.out.cells8
    have s8 := HRx.out.lt
    have s9 := HRx.out.frozens
    obtain ⟨s0, s1, s2, s3, s4, s5, s6, s7⟩ := s0
    have hblk2 := HHx.out.req i b r HBI.out HRI.out
    have e1 := hblk2.cell 1
    have e3 := hblk2.cell 3
    have e4 := hblk2.lt
    simp only [List.getElem?_cons_zero, List.getElem?_cons_succ] at e1 e3
    have nb : ¬ b = w.heap.size + 1 := fun e => HGx.out.ne_ hblk2 (by decide) e.symm
    clear hblk2 d0 d1 d2 d3 r2 r4 l1
    go_wp2
    refine OS.wp_region_o (fun k => k = w.heap.size + 1) [(0, 0), (2, 0), (3, 0), (4, 0), (6, 0), (7, 0), (8, 0), (5, 1), (9, 1), (1, 2), (10, 0), (11, 2), (12, 0), (13, 2), (14, 0), (15, 2)] (by kernel_rfl) (by kernel_rfl) ?_
    repeat (first
      | (apply OS.wpO_pure rfl rfl; (focus (intro w'; go_simp; (try rfl); done)); try simp only [Act.put, List.setIfInBounds_toArray, List.set_cons_zero, List.set_cons_succ])
      | (apply OS.wpO_read rfl rfl; (focus (intro w' hf' hs'; (try simp only [World.size_drew, World.cell?_drew, World.size_alloc, World.size_setCell, not_false_eq_true, forall_const] at hs'); go_simp; (try rfl); done)); try simp only [Act.put, List.setIfInBounds_toArray, List.set_cons_zero, List.set_cons_succ])
      | (apply OS.wpO_skip (by decide) rfl rfl; try simp only [Act.put, List.setIfInBounds_toArray, List.set_cons_zero, List.set_cons_succ]))
    refine OS.wpO_loudE rfl fun K hK => ?_
    go_simp
    refine (low_any p m u bs h _ (HHx.out.fr0 (by (repeat (first | exact Fr.refl _ _ | assumption | refine Fr.drew ?_ | refine Fr.drewL ?_ | refine Fr.alloc ?_ _)))) HMX.out HMN.out).mono ?_
    rintro e w3 ⟨rfl, hf3⟩
    refine hK _ _ ⟨hf3.any _, ?_⟩
    clear hK K
    clear g0 g1 g2 g3 g4 g5 g6 g7 g8 g9 s0 s1 s2 s3 s4 s5 s6 s7 s8 s9 e1 e3 e4
    have HG3 := Lib.hid (HGx.out.drew.fr hf3 (fun h => h))
    have HR3 := Lib.hid (HRx.out.drew.fr hf3 (fun h => h))
    obtain ⟨g0, g1, g2, g3, g4, g5, g6, g7⟩ := HG3.out.cells8
    have g8 := HG3.out.lt
    have g9 := HG3.out.frozens
    obtain ⟨s0, s1, s2, s3, s4, s5, s6, s7⟩ := HR3.out.cells8
    have s8 := HR3.out.lt
    have s9 := HR3.out.frozens
    repeat (first
      | (apply OS.wpO_pure rfl rfl; (focus (intro w'; go_simp; (try rfl); done)); try simp only [Act.put, List.setIfInBounds_toArray, List.set_cons_zero, List.set_cons_succ])
      | (apply OS.wpO_read rfl rfl; (focus (intro w' hf' hs'; (try simp only [World.size_drew, World.cell?_drew, World.size_alloc, World.size_setCell, not_false_eq_true, forall_const] at hs'); go_simp; (try rfl); done)); try simp only [Act.put, List.setIfInBounds_toArray, List.set_cons_zero, List.set_cons_succ])
      | (apply OS.wpO_skip (by decide) rfl rfl; try simp only [Act.put, List.setIfInBounds_toArray, List.set_cons_zero, List.set_cons_succ]))
    refine OS.wpO_loudE rfl fun K hK => ?_
    go_simp
    refine hK _ _ ⟨fr_cell rfl, ?_⟩
    clear hK K
    repeat (first
      | (apply OS.wpO_pure rfl rfl; (focus (intro w'; go_simp; (try rfl); done)); try simp only [Act.put, List.setIfInBounds_toArray, List.set_cons_zero, List.set_cons_succ])
      | (apply OS.wpO_read rfl rfl; (focus (intro w' hf' hs'; (try simp only [World.size_drew, World.cell?_drew, World.size_alloc, World.size_setCell, not_false_eq_true, forall_const] at hs'); go_simp; (try rfl); done)); try simp only [Act.put, List.setIfInBounds_toArray, List.set_cons_zero, List.set_cons_succ])
      | (apply OS.wpO_skip (by decide) rfl rfl; try simp only [Act.put, List.setIfInBounds_toArray, List.set_cons_zero, List.set_cons_succ]))
    refine OS.wpO_loudE rfl fun K hK => ?_
    go_simp
    refine hK _ _ ⟨fr_cell rfl, ?_⟩
    clear hK K
    repeat (first
      | (apply OS.wpO_pure rfl rfl; (focus (intro w'; go_simp; (try rfl); done)); try simp only [Act.put, List.setIfInBounds_toArray, List.set_cons_zero, List.set_cons_succ])
      | (apply OS.wpO_read rfl rfl; (focus (intro w' hf' hs'; (try simp only [World.size_drew, World.cell?_drew, World.size_alloc, World.size_setCell, not_false_eq_true, forall_const] at hs'); go_simp; (try rfl); done)); try simp only [Act.put, List.setIfInBounds_toArray, List.set_cons_zero, List.set_cons_succ])
      | (apply OS.wpO_skip (by decide) rfl rfl; try simp only [Act.put, List.setIfInBounds_toArray, List.set_cons_zero, List.set_cons_succ]))
    refine OS.wpO_loudE rfl fun K hK => ?_
    go_simp
    refine hK _ _ ⟨fr_cell rfl, ?_⟩
    clear hK K
    repeat (first
      | (apply OS.wpO_pure rfl rfl; (focus (intro w'; go_simp; (try rfl); done)); try simp only [Act.put, List.setIfInBounds_toArray, List.set_cons_zero, List.set_cons_succ])
      | (apply OS.wpO_read rfl rfl; (focus (intro w' hf' hs'; (try simp only [World.size_drew, World.cell?_drew, World.size_alloc, World.size_setCell, not_false_eq_true, forall_const] at hs'); go_simp; (try rfl); done)); try simp only [Act.put, List.setIfInBounds_toArray, List.set_cons_zero, List.set_cons_succ])
      | (apply OS.wpO_skip (by decide) rfl rfl; try simp only [Act.put, List.setIfInBounds_toArray, List.set_cons_zero, List.set_cons_succ]))
    refine OS.wpO_nil ?_
    go_wp2
    have hF3 : Fr No w w3 := HFx.out.drew.trans hf3
    exact bodyPost_ret (v := (startM h r).val) (start_res (x := startM h r) ((((HR3.out.far (p := ⟨w.heap.size + 1, 4, none⟩) (by show ¬ w.heap.size = w.heap.size + 1; omega) _).far (p := ⟨w.heap.size + 1, 5, none⟩) (by show ¬ w.heap.size = w.heap.size + 1; omega) _).far (p := ⟨w.heap.size + 1, 7, none⟩) (by show ¬ w.heap.size = w.heap.size + 1; omega) _).set8 (startM h r)) rfl) rfl
      ⟨rfl, (((hF3.setCell (p := ⟨w.heap.size + 1, 4, none⟩) (.inr (by show w.heap.size ≤ w.heap.size + 1; omega)) _).setCell (p := ⟨w.heap.size + 1, 5, none⟩) (.inr (by show w.heap.size ≤ w.heap.size + 1; omega)) _).setCell (p := ⟨w.heap.size + 1, 7, none⟩) (.inr (by show w.heap.size ≤ w.heap.size + 1; omega)) _).set8 (.inr (Nat.le_refl _)) (startM h r)⟩
end Go.Proofs.Ytohnchkoldbpcaa

/- agent: Ask. -/
namespace Go.Proofs.Ytohnchkoldbpcaa
open Go Go.RowKit Go.Proofs

section
variable {w w' : World} {p m : Nat} {u : Value} {bs : List Nat} {h : HubS}
theorem row_ne_blk {w : World} {base n size g : Nat} {e t : TypeId} {v : Value} {xs cs : List Value} (h : w.ownsRow base e size v n xs) (hb : Blk w g t cs) (ht : t ≠ e) {k : Nat} (hk : v.ownBlock = some k) : k ≠ g := by
  rintro rfl
  obtain ⟨cur, hc⟩ := row_type h k hk
  unfold Blk at hb
  rw [hc] at hb
  injection hb with hb
  injection hb with _ hb
  exact ht hb.symm
theorem row_ne_map {w : World} {base n size r : Nat} {e : TypeId} {v : Value} {xs : List Value} {κ : Type} {enc : κ → Value} {mm : List (κ × Value)} (h : w.ownsRow base e size v n xs) (hb : MapAt w r enc mm) {k : Nat} (hk : v.ownBlock = some k) : k ≠ r := by
  rintro rfl
  obtain ⟨cur, hc⟩ := row_type h k hk
  exact hb.not_cells _ _ _ hc
theorem HubAt.p_ne_m (H : HubAt w p m u bs h) : p ≠ m := H.map.ne H.blk
theorem HubAt.b_blk (H : HubAt w p m u bs h) {b : Nat} (hb : b ∈ bs) : ∃ r : Req, r ∈ h.l ∧ Blk w b 65 r.vals := by
  obtain ⟨i, hi, hib⟩ := List.getElem_of_mem hb
  have hr : h.l[i]? = some (h.l[i]'(by have := H.len; omega)) := List.getElem?_eq_getElem _
  exact ⟨_, List.mem_of_getElem? hr, H.req i b _ (by rw [List.getElem?_eq_getElem hi, hib]) hr⟩
theorem HubAt.b_ne_p (H : HubAt w p m u bs h) {b : Nat} (hb : b ∈ bs) : b ≠ p := by
  obtain ⟨r, _, hr⟩ := H.b_blk hb
  exact fun e => H.blk.ne_ hr (by decide) e.symm
theorem HubAt.b_ne_m (H : HubAt w p m u bs h) {b : Nat} (hb : b ∈ bs) : b ≠ m := by
  obtain ⟨r, _, hr⟩ := H.b_blk hb
  exact H.map.ne hr
theorem mput_new {κ ν : Type} [DecidableEq κ] {k : κ} {v : ν} {mm : List (κ × ν)} (h : mget k mm = none) : mput k v mm = mm ++ [(k, v)] := by
  have := mfind_get k mm 0
  rw [h] at this
  exact (mfind_none (by simpa using this)).1
theorem reqM_snoc {l : List Req} {bs : List Nat} (hl : bs.length = l.length) (r : Req) (b : Nat) : reqM (l ++ [r]) (bs ++ [b]) = reqM l bs ++ [(r.run, .pointer (some ⟨b, 0, none⟩))] := by
  unfold reqM
  rw [List.zip_append hl.symm, List.map_append]
  rfl
theorem HubAt.addW {W W4 : World} {o : Obj} {v4 : Value} (H : HubAt W p m u bs h) (r : Req) (hnew : findR r.run h.l = none) (hmost : h.l.length < 2147483647)
    (hM : MapAt (setObjAt (W.alloc (Obj.cells r.vals.toArray 65)) m o) m encI (mput r.run (.pointer (some ⟨W.heap.size, 0, none⟩)) (reqM h.l bs)))
    (hown : W4.ownsRow 0 2 1 v4 (h.l.length + 1) (runV h.l ++ [.int .i64 r.run])) (hg : ((setObjAt (W.alloc (Obj.cells r.vals.toArray 65)) m o).alloc (Obj.cells #[.int .i64 r.run] 2)).grownBy W4 u.ownBlock)
    (hat : v4.ownBlock = u.ownBlock ∨ v4.ownBlock = some ((setObjAt (W.alloc (Obj.cells r.vals.toArray 65)) m o).alloc (Obj.cells #[.int .i64 r.run] 2)).heap.size) :
    HubAt (W4.setCell ⟨p, 3, none⟩ v4) p m v4 (bs ++ [W.heap.size]) (h.add r) ∧ Fr (HubF p m u bs) W (W4.setCell ⟨p, 3, none⟩ v4) ∧ ∀ k, HubF p m v4 (bs ++ [W.heap.size]) k → HubF p m u bs k ∨ W.heap.size ≤ k := by
  have F1 : Fr No W (W.alloc (Obj.cells r.vals.toArray 65)) := (Fr.refl _ _).alloc _
  have hb0 := Blk.new W 65 r.vals
  have F2 : Fr (fun k => k = m) (W.alloc (Obj.cells r.vals.toArray 65)) (setObjAt (W.alloc (Obj.cells r.vals.toArray 65)) m o) := Fr.setObj (S := fun k => k = m) (Fr.refl _ _) (r := m) (.inl rfl) o
  have F3 : Fr No (setObjAt (W.alloc (Obj.cells r.vals.toArray 65)) m o) _ := (Fr.refl _ _).alloc (Obj.cells #[.int .i64 r.run] 2)
  have F4 := Fr.of_grown hg
  have F5 : Fr (fun k => k = p) W4 (W4.setCell ⟨p, 3, none⟩ v4) := fr_cell rfl
  have hlt := H.lt
  have hrow1 : ∀ k, u.ownBlock = some k → k ≠ p := fun k hk => row_ne_blk H.row H.blk (by decide) hk
  have hrow2 : ∀ k, u.ownBlock = some k → k ≠ m := fun k hk => row_ne_map H.row H.map hk
  have hrow3 : ∀ k, u.ownBlock = some k → k < W.heap.size := fun k hk => hlt k (.inr (.inr (.inr hk)))
  have hmlt : m < W.heap.size := hlt m (.inr (.inl rfl))
  have hplt : p < W.heap.size := hlt p (.inl rfl)
  have sz2 : (W.alloc (Obj.cells r.vals.toArray 65)).heap.size = W.heap.size + 1 := by simp
  have sz3 : (setObjAt (W.alloc (Obj.cells r.vals.toArray 65)) m o).heap.size = W.heap.size + 1 := by simp [setObjAt]
  have keep : ∀ (b : Nat) (t : TypeId) (cs : List Value), Blk (W.alloc (Obj.cells r.vals.toArray 65)) b t cs → b ≠ m → u.ownBlock ≠ some b → b ≠ p → Blk (W4.setCell ⟨p, 3, none⟩ v4) b t cs := fun b t cs hb h1 h2 h3 =>
    (((hb.fr F2 h1).fr F3 (fun h => h)).fr F4 (fun e => h2 e.symm)).fr F5 h3
  refine ⟨⟨?_, ?_, ?_, ?_, ?_, ?_, ?_, ?_⟩, ?_, ?_⟩
  · have h1 := ((((H.blk.fr F1 (fun h => h)).fr F2 H.p_ne_m).fr F3 (fun h => h)).fr F4 (fun e => hrow1 p e.symm rfl)).set_ 3 v4
    exact h1
  · have h1 : (W4.setCell ⟨p, 3, none⟩ v4).ownsRow 0 2 1 v4 (h.l.length + 1) (runV h.l ++ [.int .i64 r.run]) := own_fr hown F5 fun k hk e => by
      have e : k = p := e
      subst e
      obtain ⟨cur, hc⟩ := row_type hown k hk
      have h2 := (((H.blk.fr F1 (fun h => h)).fr F2 H.p_ne_m).fr F3 (fun h => h)).fr F4 (fun e => hrow1 k e.symm rfl)
      unfold Blk at h2
      rw [hc] at h2
      injection h2 with h2
      injection h2 with _ h2
      exact absurd h2 (by decide)
    show (W4.setCell ⟨p, 3, none⟩ v4).ownsRow 0 2 1 v4 (h.l ++ [r]).length (runV (h.l ++ [r]))
    rw [List.length_append, List.length_singleton, show runV (h.l ++ [r]) = runV h.l ++ [.int .i64 r.run] by simp]
    exact h1
  · rw [show (h.add r).l = h.l ++ [r] from rfl, reqM_snoc H.len, ← mput_new (H.get_none hnew)]
    exact ((hM.fr F3 (fun h => h)).fr F4 (fun e => hrow2 m e.symm rfl)).fr F5 (fun e => H.p_ne_m e.symm)
  · show (bs ++ [W.heap.size]).length = (h.l ++ [r]).length
    rw [List.length_append, List.length_append, H.len]
    rfl
  · intro i b r' hb hr'
    replace hr' : (h.l ++ [r])[i]? = some r' := hr'
    rcases Nat.lt_or_ge i h.l.length with hi | hi
    · rw [List.getElem?_append_left (by rw [H.len]; exact hi)] at hb
      rw [List.getElem?_append_left hi] at hr'
      have hm := List.mem_of_getElem? hb
      refine keep b _ _ ((H.req i b r' hb hr').fr F1 (fun h => h)) (H.b_ne_m hm) (fun e => row_ne_blk H.row (H.req i b r' hb hr') (by decide) e rfl) (H.b_ne_p hm)
    · have hi2 : i < (h.l ++ [r]).length := (List.getElem?_eq_some_iff.1 hr').1
      rw [List.length_append, List.length_singleton] at hi2
      obtain rfl : i = h.l.length := by omega
      rw [List.getElem?_append_right (by rw [H.len]; exact Nat.le_refl _), H.len, Nat.sub_self, List.getElem?_cons_zero] at hb
      rw [List.getElem?_append_right (Nat.le_refl _), Nat.sub_self, List.getElem?_cons_zero] at hr'
      injection hb with hb
      injection hr' with hr'
      subst hb hr'
      exact keep _ _ _ hb0 (by omega) (fun e => by have := hrow3 _ e; omega) (by omega)
  · rw [List.nodup_append]
    refine ⟨H.nodup, by simp, fun a ha b hb => ?_⟩
    simp at hb
    subst hb
    have := hlt a (.inr (.inr (.inl ha)))
    omega
  · show h.frm ≤ (h.l ++ [r]).length
    have := H.frm
    rw [List.length_append]
    omega
  · show (h.l ++ [r]).length ≤ 2147483647
    rw [List.length_append, List.length_singleton]
    omega
  · refine ((((F1.any _).step F2 fun i hi => .inl (.inr (.inl hi))).step F3 fun i hi => hi.elim).step F4 fun i hi => .inl (.inr (.inr (.inr hi.symm)))).step F5 fun i hi => .inl (.inl hi)
  · rintro k (hk | hk | hk | hk)
    · exact .inl (.inl hk)
    · exact .inl (.inr (.inl hk))
    · rcases List.mem_append.1 hk with hk | hk
      · exact .inl (.inr (.inr (.inl hk)))
      · simp at hk
        exact .inr (by omega)
    · rcases hat with e | e
      · rw [e] at hk
        exact .inl (.inr (.inr (.inr hk)))
      · rw [e] at hk
        injection hk with hk
        refine .inr ?_
        rw [← hk, World.size_alloc, sz3]
        omega
end
end Go.Proofs.Ytohnchkoldbpcaa

/- agent: Ask, the walk. -/
namespace Go.Proofs.Ytohnchkoldbpcaa
open Go Go.RowKit Go.Proofs

theorem ask_res {tmps : Array Value} {w : World} {g : Nat} {x : Msg} {e : Int} (h : Blk w g 26 x.vals) (h4 : tmps.getD 12 undef = .pointer (some ⟨g, 0, none⟩)) (h5 : tmps.getD 13 undef = .int .i64 e) :
    (results Try.f6 tmps).run Try.prog w = .ok (msgErr x e) w := by
  obtain ⟨r0, r1, r2, r3, r4, r5, r6, r7⟩ := h.cells8
  simp only [Array.getD_eq_getD_getElem?] at h4 h5
  simp [results, Try.results6, go_sem, h4, h5, r0, r1, r2, r3, r4, r5, r6, r7]
set_option maxRecDepth 100000 in
set_option maxHeartbeats 400000 in
theorem ask_full (p m : Nat) (u : Value) (bs : List Nat) (h : HubS) (w : World) (H : HubAt w p m u bs h) (run mins code clock : Int) (job : ByteArray) (hr : isRunB run = true) (hm0 : 0 ≤ mins) (hm1 : mins ≤ 10080) (hj : job.toList.isEmpty = false) (hj1 : (job.size : Int) ≤ 20) (hj0 : (0 : Int) ≤ job.size) (hc : isClockB clock = true)
    (hlast : lastR h.l < run) (hroom : 64 ≤ h.l.length - h.frm) :
    Calls Try.prog 6 #[.pointer (some ⟨p, 0, none⟩), .int .i64 run, .int .i64 mins, .int .i64 code, .string job, .int .i64 clock] w fun e w' => e = .returned (msgErr zeroMsg 4) ∧ Fr No w w' := by
  have HH1 := Lib.hid (H.fr0 ((Fr.refl No w).alloc (Obj.cells zeroMsg.vals.toArray 26)))
  have HB0 := Lib.hid (Blk.new w 26 zeroMsg.vals)
  have HR := Lib.hid hr
  have HC := Lib.hid hc
  obtain ⟨z, hz⟩ : ∃ z, z = lastR h.l := ⟨_, rfl⟩
  rw [← hz] at hlast
  have HZ := Lib.hid hz
  have hl0 : (0 : Int) ≤ (h.l.length : Int) := by omega
  have hl1 : (h.l.length : Int) ≤ 2147483647 := by have := H.most; omega
  have hf0 : (0 : Int) ≤ (h.frm : Int) := by omega
  have hf1 : (h.frm : Int) ≤ (h.l.length : Int) := by have := H.frm; omega
  have hrm : (64 : Int) ≤ (h.l.length : Int) - (h.frm : Int) := by omega
  obtain ⟨A, c, rfl, hcc⟩ := own_shape H.row
  have k1 : decide (mins < 0) = false := by simp; omega
  have k2 : decide (10080 < mins) = false := by simp; omega
  have k3 : decide (20 < (job.size : Int)) = false := by simp; omega
  have k4 : decide (run ≤ z) = false := by simp; omega
  obtain ⟨d, kw⟩ : ∃ d : Int, IntKind.i64.wrap ((h.l.length : Int) - (h.frm : Int)) = d := ⟨_, rfl⟩
  rw [← IntWalk.i64_in ((h.l.length : Int) - (h.frm : Int)) (by omega), kw] at hrm
  clear H hr hc hz hroom
  go_enter Try.func6, Try.ntmps6
  go_wp2_with (first
    | (go_at_call 22; refine (isRun_any _ _).mono ?_; rintro e w1 ⟨he, hw⟩; rw [HR.out] at he; obtain rfl := he; obtain rfl := hw.symm; clear hw)
    | (go_at_call 23; refine (isClock_any _ _).mono ?_; rintro e w1 ⟨he, hw⟩; rw [HC.out] at he; obtain rfl := he; obtain rfl := hw.symm; clear hw)
    | (go_at_call 24; refine (last_any p m _ bs h _ HH1.out).mono ?_; rintro e w1 ⟨he, hf1⟩; rw [← HZ.out] at he; obtain rfl := he
       have H1 := Lib.hid (HH1.out.fr0 hf1)
       have d3 := H1.out.blk.cell 3
       have d4 := H1.out.blk.cell 4
       have dl := H1.out.blk.lt
       simp only [List.getElem?_cons_zero, List.getElem?_cons_succ] at d3 d4
       have HB1 := Lib.hid (HB0.out.fr hf1 (fun h => h))
       obtain ⟨q0, q1, q2, q3, q4, q5, q6, q7⟩ := HB1.out.cells8
       have q8 := HB1.out.lt
       have q9 := HB1.out.frozens))
  refine wp_region_o [(0, 0), (1, 0), (2, 0), (5, 0), (6, 0), (7, 0), (3, 1), (4, 1), (8, 1), (9, 0), (10, 0), (11, 0)] (by kernel_rfl) (by kernel_rfl) ?_
  repeat (first
    | (apply wpO_pure rfl rfl; (focus (intro w'; go_simp; (try rfl); done)); try simp only [Act.put, List.setIfInBounds_toArray, List.set_cons_zero, List.set_cons_succ])
    | (apply wpO_read rfl rfl; (focus (intro w' hf' hs'; (try simp only [World.size_drew, World.cell?_drew, World.size_alloc, World.size_setCell] at hs'); go_simp; (try rfl); done)); try simp only [Act.put, List.setIfInBounds_toArray, List.set_cons_zero, List.set_cons_succ])
    | (apply wpO_skip (by decide) rfl rfl; try simp only [Act.put, List.setIfInBounds_toArray, List.set_cons_zero, List.set_cons_succ]))
  refine wpO_nil ?_
  go_wp2
  exact bodyPost_ret (v := msgErr zeroMsg 4) (ask_res (x := zeroMsg) (HB1.out.set8 zeroMsg).drew rfl rfl) rfl ⟨rfl, ((((Fr.refl No w).alloc _).trans hf1).set8 (.inr (Nat.le_refl _)) zeroMsg).drew⟩
set_option maxRecDepth 100000 in
set_option maxHeartbeats 1000000 in
theorem ask_ok (p m : Nat) (u : Value) (bs : List Nat) (h : HubS) (w : World) (H : HubAt w p m u bs h) (run mins code clock : Int) (job : ByteArray) (hr : isRunB run = true) (hm0 : 0 ≤ mins) (hm1 : mins ≤ 10080) (hj : job.toList.isEmpty = false) (hj1 : (job.size : Int) ≤ 20) (hj0 : (0 : Int) ≤ job.size) (hc : isClockB clock = true)
    (hlast : lastR h.l < run) (hroom : h.l.length - h.frm < 64) (hnew : findR run h.l = none) (hmost : h.l.length < 2147483646) (hrun0 : 0 ≤ run) (hrun : run ≤ 2147483647) :
    Calls Try.prog 6 #[.pointer (some ⟨p, 0, none⟩), .int .i64 run, .int .i64 mins, .int .i64 code, .string job, .int .i64 clock] w fun e w' => ∃ u' b', e = .returned (msgErr (startM (h.add ⟨run, 0, mins, code, job, clock⟩) ⟨run, 0, mins, code, job, clock⟩) 0) ∧
      HubAt w' p m u' (bs ++ [b']) (h.add ⟨run, 0, mins, code, job, clock⟩) ∧ Fr (HubF p m u bs) w w' ∧ ∀ k, HubF p m u' (bs ++ [b']) k → HubF p m u bs k ∨ w.heap.size ≤ k := by
  have HH1 := Lib.hid (H.fr0 ((Fr.refl No w).alloc (Obj.cells zeroMsg.vals.toArray 26)))
  have HB0 := Lib.hid (Blk.new w 26 zeroMsg.vals)
  have HR := Lib.hid hr
  have HC := Lib.hid hc
  have HNEW := Lib.hid hnew
  have HMOST := Lib.hid hmost
  have HLT := Lib.hid H.lt
  obtain ⟨z, hz⟩ : ∃ z, z = lastR h.l := ⟨_, rfl⟩
  rw [← hz] at hlast
  have HZ := Lib.hid hz
  have hl0 : (0 : Int) ≤ (h.l.length : Int) := by omega
  have hl1 : (h.l.length : Int) ≤ 2147483647 := by have := H.most; omega
  have hf0 : (0 : Int) ≤ (h.frm : Int) := by omega
  have hf1 : (h.frm : Int) ≤ (h.l.length : Int) := by have := H.frm; omega
  have hrm : (h.l.length : Int) - (h.frm : Int) < (64 : Int) := by omega
  obtain ⟨A, c, rfl, hcc⟩ := own_shape H.row
  obtain ⟨i0, hi0, hz0, hzs0, hy0⟩ := info_parts i64_info
  have k1 : decide (mins < 0) = false := by simp; omega
  have k2 : decide (10080 < mins) = false := by simp; omega
  have k3 : decide (20 < (job.size : Int)) = false := by simp; omega
  have k4 : decide (run ≤ z) = false := by simp; omega
  obtain ⟨d, kw⟩ : ∃ d : Int, IntKind.i64.wrap ((h.l.length : Int) - (h.frm : Int)) = d := ⟨_, rfl⟩
  rw [← IntWalk.i64_in ((h.l.length : Int) - (h.frm : Int)) (by omega), kw] at hrm
  clear H hr hc hz hroom hnew hmost
  go_enter Try.func6, Try.ntmps6
  go_wp2_with (first
    | (go_at_call 22; refine (isRun_any _ _).mono ?_; rintro e w1 ⟨he, hw⟩; rw [HR.out] at he; obtain rfl := he; obtain rfl := hw.symm; clear hw)
    | (go_at_call 23; refine (isClock_any _ _).mono ?_; rintro e w1 ⟨he, hw⟩; rw [HC.out] at he; obtain rfl := he; obtain rfl := hw.symm; clear hw)
    | (go_at_call 24; refine (last_any p m _ bs h _ HH1.out).mono ?_; rintro e w1 ⟨he, hf1⟩; rw [← HZ.out] at he; obtain rfl := he
       have HF1 := Lib.hid hf1
       have H1 := Lib.hid (HH1.out.fr0 hf1)
       have d3 := H1.out.blk.cell 3
       have d4 := H1.out.blk.cell 4
       have dl := H1.out.blk.lt
       simp only [List.getElem?_cons_zero, List.getElem?_cons_succ] at d3 d4
       have HB1 := Lib.hid (HB0.out.fr hf1 (fun h => h))
       clear hf1))
  refine wp_region_o [(0, 0), (1, 0), (2, 0), (5, 0), (6, 0), (7, 0), (3, 1), (4, 1), (8, 1), (9, 0), (10, 0), (11, 0)] (by kernel_rfl) (by kernel_rfl) ?_
  repeat (first
    | (apply wpO_pure rfl rfl; (focus (intro w'; go_simp; (try rfl); done)); try simp only [Act.put, List.setIfInBounds_toArray, List.set_cons_zero, List.set_cons_succ])
    | (apply wpO_read rfl rfl; (focus (intro w' hf' hs'; (try simp only [World.size_drew, World.cell?_drew, World.size_alloc, World.size_setCell] at hs'); go_simp; (try rfl); done)); try simp only [Act.put, List.setIfInBounds_toArray, List.set_cons_zero, List.set_cons_succ])
    | (apply wpO_skip (by decide) rfl rfl; try simp only [Act.put, List.setIfInBounds_toArray, List.set_cons_zero, List.set_cons_succ]))
  refine wpO_nil ?_
  generalize hW : World.drew _ = W
  have HFW : Hid (Fr No w W) := Lib.hid (by subst hW; exact (((Fr.refl No w).alloc _).trans HF1.out).drew)
  have HW := Lib.hid (show HubAt W p m (.slice A h.l.length c) bs h by subst hW; exact H1.out.fr0 (by (repeat (first | exact Fr.refl _ _ | assumption | refine Fr.drew ?_ | refine Fr.drewL ?_ | refine Fr.alloc ?_ _))))
  have HBW := Lib.hid (show Blk W w.heap.size 26 zeroMsg.vals by subst hW; exact HB1.out)
  clear hW d3 d4 dl
  have d1 := HW.out.blk.cell 2
  have d3 := HW.out.blk.cell 3
  have dl := HW.out.blk.lt
  have dz := HW.out.blk.frozens
  simp only [List.getElem?_cons_zero, List.getElem?_cons_succ] at d1 d3
  have hM0 := HW.out.map.alloc (Obj.cells (Req.vals ⟨run, 0, mins, code, job, clock⟩).toArray 65)
  obtain ⟨o, hu, hMu, _⟩ := run_update i64_law (t := 60) (et := 63) (by kernel_rfl) hM0 run (.pointer (some ⟨W.heap.size, 0, none⟩))
  have HMU := Lib.hid hMu
  obtain ⟨W3, hW3⟩ : ∃ W3, W3 = setObjAt (W.alloc (Obj.cells (Req.vals ⟨run, 0, mins, code, job, clock⟩).toArray 65)) m o := ⟨_, rfl⟩
  rw [← hW3] at hu
  have F3 : Fr (fun k => k = m) (W.alloc (Obj.cells (Req.vals ⟨run, 0, mins, code, job, clock⟩).toArray 65)) W3 := by subst hW3; exact Fr.setObj (S := fun k => k = m) (Fr.refl _ _) (r := m) (.inl rfl) o
  have hb3 := (HW.out.blk.alloc (Obj.cells (Req.vals ⟨run, 0, mins, code, job, clock⟩).toArray 65)).fr F3 HW.out.p_ne_m
  have HR3 : Hid (W3.ownsRow 0 2 1 (.slice A h.l.length c) h.l.length (runV h.l)) := Lib.hid (own_fr (own_fr0 HW.out.row ((Fr.refl No W).alloc _)) F3 fun k hk e => row_ne_map HW.out.row HW.out.map hk e)
  have HR3' := Lib.hid (own_fr0 HR3.out ((Fr.refl No W3).alloc (Obj.cells #[.int .i64 run] 2)))
  have HN3 : Hid (Sl (W3.alloc (Obj.cells #[.int .i64 run] 2)) 2 1 (some ⟨W3.heap.size, 0, none⟩) 1 [.int .i64 run]) := Lib.hid (Sl.of_new W3 2 1 1 #[.int .i64 run] [.int .i64 run] rfl rfl)
  have HB3 := Lib.hid hb3
  have e3 := hb3.cell 3
  have el := hb3.lt
  have HW3 := Lib.hid hW3
  simp only [List.getElem?_cons_zero, List.getElem?_cons_succ] at e3
  clear hM0 hMu hb3 F3 hW3
  go_wp2_with (first
    | (at_builtin; go_loud (refine wpList_append_owned' (by rfl) (.tmp 79) (.tmp 81) 51 (by rfl) 0 2 i0 _ 1 8 Try.underlying51 hi0 hz0 hzs0 hy0 rfl (by omega) (.slice A h.l.length c) h.l.length (runV h.l) (by rfl) HR3'.out (some ⟨W3.heap.size, 0, none⟩) 1 1 2 [.int .i64 run] (by rfl) HN3.out (by simp [Value.oneCell']) (by have := HMOST.out; simp only [maxLen]; omega) (by have := HMOST.out; omega) (by omega) ?_); intro v4 w4 hown hg hat
       obtain ⟨A4, c4, rfl, hc4⟩ := own_shape hown
       have HOWN := Lib.hid hown
       have HG := Lib.hid hg
       have HAT := Lib.hid hat
       have hb4 := (HB3.out.alloc (Obj.cells #[.int .i64 run] 2)).fr (Fr.of_grown hg) (fun e => row_ne_blk HR3.out HB3.out (by decide) e.symm rfl)
       have f3 := hb4.cell 3
       have fl := hb4.lt
       have fz := hb4.frozens
       simp only [List.getElem?_cons_zero, List.getElem?_cons_succ] at f3
       have HADD := Lib.hid (HubAt.addW (W := W) (W4 := w4) (o := o) (v4 := .slice A4 (h.l.length + 1) c4) HW.out ⟨run, 0, mins, code, job, clock⟩ HNEW.out (by have := HMOST.out; omega) HMU.out hown (by rw [← HW3.out]; exact hg) (by rw [← HW3.out]; exact hat))
       have HB5 : Hid (Blk (w4.setCell ⟨p, 3, none⟩ (.slice A4 (h.l.length + 1) c4)) w.heap.size 26 zeroMsg.vals) := Lib.hid (HBW.out.fr HADD.out.2.1 (fun e => by have := HLT.out _ e; omega))
       have HLR := Lib.hid (show lastR (h.add ⟨run, 0, mins, code, job, clock⟩).l = run by simp [HubS.add, lastR])
       have HI1 := Lib.hid (show (bs ++ [W.heap.size])[h.l.length]? = some W.heap.size by rw [List.getElem?_append_right (by rw [HW.out.len]; exact Nat.le_refl _), HW.out.len, Nat.sub_self]; rfl)
       have HI2 := Lib.hid (show (h.add ⟨run, 0, mins, code, job, clock⟩).l[h.l.length]? = some (⟨run, 0, mins, code, job, clock⟩ : Req) by simp [HubS.add])
       clear hb4 hown hg hat)
    | (go_at_call 25
       refine (start_any p m _ _ _ _ HADD.out.1 (by rw [HLR.out]; exact hrun) (by rw [HLR.out]; exact hrun0) HI1.out HI2.out).mono ?_
       rintro e w6 ⟨rfl, hf6⟩
       have HF6 := Lib.hid hf6
       have HB6 := Lib.hid (HB5.out.fr hf6 (fun h => h))
       obtain ⟨q0, q1, q2, q3, q4, q5, q6, q7⟩ := HB6.out.cells8
       have q8 := HB6.out.lt
       have q9 := HB6.out.frozens
       clear hf6))
  have hF8 : Fr (fun k => k = w.heap.size) w6 (set8 w6 w.heap.size (startM (h.add ⟨run, 0, mins, code, job, clock⟩) ⟨run, 0, mins, code, job, clock⟩)) := Fr.set8 (S := fun k => k = w.heap.size) (Fr.refl _ w6) (.inl rfl) _
  have hsz : w.heap.size < W.heap.size := HBW.out.lt
  exact bodyPost_ret (v := msgErr (startM (h.add ⟨run, 0, mins, code, job, clock⟩) ⟨run, 0, mins, code, job, clock⟩) 0) (ask_res (x := startM (h.add ⟨run, 0, mins, code, job, clock⟩) ⟨run, 0, mins, code, job, clock⟩) (HB6.out.set8 _) rfl rfl) rfl
    ⟨_, W.heap.size, rfl, (HADD.out.1.fr0 HF6.out).fr hF8 (fun k hk e => by
      have e : k = w.heap.size := e
      rcases HADD.out.2.2 k hk with h1 | h1
      · have := HLT.out k h1; omega
      · omega), (((HFW.out.any _).trans HADD.out.2.1).trans (HF6.out.any _)).set8 (.inr (Nat.le_refl _)) _, fun k hk => (HADD.out.2.2 k hk).imp id (fun h1 => by omega)⟩
end Go.Proofs.Ytohnchkoldbpcaa

/- agent: a hub's Take, the memory. -/
namespace Go.Proofs.Ytohnchkoldbpcaa
open Go Go.RowKit Go.Proofs

theorem reqM_eq (l : List Req) (bs : List Nat) : reqM l bs = ((l.map fun r => r.run).zip bs).map fun x => (x.1, .pointer (some ⟨x.2, 0, none⟩)) := by
  unfold reqM
  rw [List.zip_map_left, List.map_map]
  rfl
theorem runs_set {l : List Req} {i : Nat} {r r' : Req} (hr : l[i]? = some r) (h : r'.run = r.run) : (l.set i r').map (fun r => r.run) = l.map fun r => r.run := by
  rw [List.map_set, h]
  apply List.ext_getElem?
  intro k
  rw [List.getElem?_set]
  split
  · rename_i e
    subst e
    have hl := (List.getElem?_eq_some_iff.1 hr).1
    have he := (List.getElem?_eq_some_iff.1 hr).2
    simp [hl, he]
  · rfl
theorem nodup_inj {α : Type} {xs : List α} (h : xs.Nodup) {i j : Nat} {x : α} (hi : xs[i]? = some x) (hj : xs[j]? = some x) : i = j :=
  (List.getElem?_inj (List.getElem?_eq_some_iff.1 hi).1 h).1 (hi.trans hj.symm)
section
variable {w w' : World} {p m : Nat} {u : Value} {bs : List Nat} {h : HubS}
theorem HubAt.b_ne_row (H : HubAt w p m u bs h) {b : Nat} (hb : b ∈ bs) : u.ownBlock ≠ some b := by
  obtain ⟨r, _, hr⟩ := H.b_blk hb
  exact fun e => row_ne_blk H.row hr (by decide) e rfl
/-- one cell of one request is another one -/
theorem HubAt.setReq (H : HubAt w p m u bs h) {i b k : Nat} {r r' : Req} {v : Value} (hb : bs[i]? = some b) (hr : h.l[i]? = some r) (hv : r'.vals = r.vals.set k v) (hrun : r'.run = r.run) :
    HubAt (w.setCell ⟨b, k, none⟩ v) p m u bs { h with l := h.l.set i r' } := by
  have hm := List.mem_of_getElem? hb
  have F : Fr (fun j => j = b) w (w.setCell ⟨b, k, none⟩ v) := fr_cell rfl
  refine ⟨H.blk.fr F (fun e => H.b_ne_p hm e.symm), ?_, ?_, ?_, ?_, H.nodup, ?_, ?_⟩
  · show (w.setCell ⟨b, k, none⟩ v).ownsRow 0 2 1 u (h.l.set i r').length (runV (h.l.set i r'))
    unfold runV
    rw [runs_set hr hrun, List.length_set]
    exact own_fr H.row F fun j hj e => H.b_ne_row hm (by rw [hj, e])
  · show MapAt _ m encI (reqM (h.l.set i r') bs)
    rw [reqM_eq, runs_set hr hrun, ← reqM_eq]
    exact H.map.fr F (fun e => H.b_ne_m hm e.symm)
  · show bs.length = (h.l.set i r').length
    rw [List.length_set]
    exact H.len
  · intro j b' r1 hb' hr1
    replace hr1 : (h.l.set i r')[j]? = some r1 := hr1
    by_cases hij : i = j
    · subst hij
      rw [hb] at hb'
      injection hb' with hb'
      subst hb'
      have hl := (List.getElem?_eq_some_iff.1 hr).1
      rw [List.getElem?_set_self hl] at hr1
      injection hr1 with hr1
      subst hr1
      rw [hv]
      exact (H.req i b r hb hr).set_ k v
    · rw [List.getElem?_set_ne hij] at hr1
      refine (H.req j b' r1 hb' hr1).fr F fun e => ?_
      subst e
      exact hij (nodup_inj H.nodup hb hb')
  · show h.frm ≤ (h.l.set i r').length
    rw [List.length_set]
    exact H.frm
  · show (h.l.set i r').length ≤ _
    rw [List.length_set]
    exact H.most
theorem HubAt.setFrm (H : HubAt w p m u bs h) {f : Nat} (hf : f ≤ h.l.length) : HubAt (w.setCell ⟨p, 4, none⟩ (.int .i64 f)) p m u bs { h with frm := f } := by
  have F : Fr (fun j => j = p) w (w.setCell ⟨p, 4, none⟩ (.int .i64 f)) := fr_cell rfl
  exact ⟨H.blk.set_ 4 (.int .i64 f), own_fr H.row F fun j hj e => row_ne_blk H.row H.blk (by decide) hj e, H.map.fr F (fun e => H.p_ne_m e.symm), H.len,
    fun i b r hb hr => (H.req i b r hb hr).fr F (fun e => H.b_ne_p (List.mem_of_getElem? hb) e), H.nodup, hf, H.most⟩
end
theorem setR_set {l : List Req} (hn : (l.map fun r => r.run).Nodup) {i : Nat} {r : Req} (hr : l[i]? = some r) (st : Int) : setR r.run st l = l.set i { r with state := st } := by
  apply List.ext_getElem?
  intro k
  unfold setR
  rw [List.getElem?_map, List.getElem?_set]
  have hl := (List.getElem?_eq_some_iff.1 hr).1
  by_cases hik : i = k
  · subst hik
    have he := (List.getElem?_eq_some_iff.1 hr).2
    simp [hl, he]
  · rw [if_neg hik]
    cases hk : l[k]? with
    | none => rfl
    | some x =>
      have hx : x.run ≠ r.run := fun e => by
        have h1 : (l.map fun r => r.run)[i]? = some r.run := by rw [List.getElem?_map, hr]; rfl
        have h2 : (l.map fun r => r.run)[k]? = some r.run := by rw [List.getElem?_map, hk, ← e]; rfl
        exact hik (nodup_inj hn h1 h2)
      simp [hx]
theorem findR_at {l : List Req} {n : Int} {r : Req} (h : findR n l = some r) : r.run = n ∧ ∃ i : Nat, l[i]? = some r := by
  have h1 := List.find?_some h
  have h2 := List.mem_of_find?_eq_some h
  obtain ⟨i, hi, e⟩ := List.getElem_of_mem h2
  exact ⟨by simpa using h1, i, by rw [List.getElem?_eq_getElem hi, e]⟩
theorem advR_step {l : List Req} {f : Nat} {r : Req} (hr : l[f]? = some r) (h : r.state = 2) : advR l f = advR l (f + 1) := by
  have hl := (List.getElem?_eq_some_iff.1 hr).1
  unfold advR
  rw [List.drop_eq_getElem_cons hl, (List.getElem?_eq_some_iff.1 hr).2, List.takeWhile_cons_of_pos (by simpa using h), List.length_cons]
  omega
theorem advR_stop {l : List Req} {f : Nat} {r : Req} (hr : l[f]? = some r) (h : r.state ≠ 2) : advR l f = f := by
  have hl := (List.getElem?_eq_some_iff.1 hr).1
  unfold advR
  rw [List.drop_eq_getElem_cons hl, (List.getElem?_eq_some_iff.1 hr).2, List.takeWhile_cons_of_neg (by simpa using h)]
  rfl
theorem advR_end {l : List Req} {f : Nat} (h : f = l.length) : advR l f = f := by
  subst h
  unfold advR
  simp
end Go.Proofs.Ytohnchkoldbpcaa

/- agent: a hub's Take, the walk. -/
namespace Go.Proofs.Ytohnchkoldbpcaa
open Go Go.RowKit Go.Proofs

def takeV (v r : Value) (e : Int) : Value := .tuple #[v, r, .int .i64 e]
abbrev repV (l : List (Int × Int)) : List Value := l.flatMap fun x => [.int .i64 x.1, .int .i64 x.2]
/-- what a hub's Take gives back -/
structure TakeOut (w : World) (e : Ending) (ms : List Msg) (rs : List (Int × Int)) (er : Int) : Prop where
  out : ∃ A c B d, e = .returned (takeV (.slice A ms.length c) (.slice B rs.length d) er) ∧ Sl w 26 8 A ms.length (ms.flatMap Msg.vals) ∧ Sl w 70 2 B rs.length (repV rs)
theorem TakeOut.nils (w : World) (er : Int) : TakeOut w (.returned (takeV (.slice none 0 0) (.slice none 0 0) er)) [] [] er :=
  ⟨none, 0, none, 0, rfl, Sl.nil _ _ _ _, Sl.nil _ _ _ _⟩
theorem htake_res {tmps : Array Value} {w : World} {v r : Value} {e : Int} (h4 : tmps.getD 4 undef = v) (h5 : tmps.getD 5 undef = r) (h6 : tmps.getD 6 undef = .int .i64 e) :
    (results Try.f7 tmps).run Try.prog w = .ok (takeV v r e) w := by
  simp only [Array.getD_eq_getD_getElem?] at h4 h5 h6
  simp [results, Try.results7, go_sem, h4, h5, h6, takeV]
theorem htake_nil (m : Msg) (w : World) : Calls Try.prog 7 #[.pointer none, m.val] w fun e w' => TakeOut w' e [] [] 2 ∧ Fr No w w' := by
  go_enter Try.func7, Try.ntmps7
  go_wp2
  exact bodyPost_ret (htake_res rfl rfl rfl) rfl ⟨TakeOut.nils _ _, by (repeat (first | exact Fr.refl _ _ | assumption | refine Fr.drew ?_ | refine Fr.drewL ?_ | refine Fr.alloc ?_ _))⟩
theorem heard_23 (me other : Int) (m : Msg) (A : Option Addr) (w : World) (h : Sl w 3 1 A 2 [.int .i64 2, .int .i64 3]) :
    Calls Try.prog 26 #[endV me other, m.val, .slice A 2 2] w fun e w' => e = .returned (.bool (heardB me other [2, 3] m)) ∧ Fr No w w' := heard_any me other m A 2 3 [2, 3] w h (by decide)
set_option maxRecDepth 100000 in
set_option maxHeartbeats 1000000 in
theorem take_not (p m : Nat) (u : Value) (bs : List Nat) (h : HubS) (x : Msg) (w : World) (H : HubAt w p m u bs h) (hh : heardB h.me h.other [2, 3] x = false) :
    Calls Try.prog 7 #[.pointer (some ⟨p, 0, none⟩), x.val] w fun e w' => TakeOut w' e [] [] 1 ∧ Fr No w w' := by
  have HSL := Lib.hid (Sl.of_new (w.alloc (Obj.cells x.vals.toArray 26)) 3 1 2 #[.int .i64 2, .int .i64 3] [.int .i64 2, .int .i64 3] rfl rfl).drew
  have HH1 := Lib.hid (H.fr0 ((Fr.refl No w).alloc (Obj.cells x.vals.toArray 26)))
  have HX := Lib.hid (Blk.new w 26 x.vals)
  have HHD := Lib.hid hh
  have d0 := H.blk.cell 0
  have d1 := H.blk.cell 1
  have dl := H.blk.lt
  simp only [List.getElem?_cons_zero, List.getElem?_cons_succ] at d0 d1
  clear hh
  go_enter Try.func7, Try.ntmps7
  go_wp2
  refine wp_region_o [(0, 0), (1, 0), (2, 0), (3, 1), (4, 1), (5, 2), (6, 2), (7, 0), (8, 0)] (by kernel_rfl) (by kernel_rfl) ?_
  repeat (first
    | (apply wpO_pure rfl rfl; (focus (intro w'; go_simp; (try rfl); done)); try simp only [Act.put, List.setIfInBounds_toArray, List.set_cons_zero, List.set_cons_succ])
    | (apply wpO_read rfl rfl; (focus (intro w' hf' hs'; (try simp only [World.size_drew, World.cell?_drew, World.size_alloc, World.size_setCell] at hs'); go_simp; (try rfl); done)); try simp only [Act.put, List.setIfInBounds_toArray, List.set_cons_zero, List.set_cons_succ])
    | (apply wpO_skip (by decide) rfl rfl; try simp only [Act.put, List.setIfInBounds_toArray, List.set_cons_zero, List.set_cons_succ]))
  refine wpO_loudE rfl fun K hK => ?_
  go_simp
  refine hK _ _ ⟨by (repeat (first | exact Fr.refl _ _ | assumption | refine Fr.drew ?_ | refine Fr.drewL ?_ | refine Fr.alloc ?_ _)), ?_⟩
  clear hK K
  repeat (first
    | (apply wpO_pure rfl rfl; (focus (intro w'; go_simp; (try rfl); done)); try simp only [Act.put, List.setIfInBounds_toArray, List.set_cons_zero, List.set_cons_succ])
    | (apply wpO_read rfl rfl; (focus (intro w' hf' hs'; (try simp only [World.size_drew, World.cell?_drew, World.size_alloc, World.size_setCell] at hs'); go_simp; (try rfl); done)); try simp only [Act.put, List.setIfInBounds_toArray, List.set_cons_zero, List.set_cons_succ])
    | (apply wpO_skip (by decide) rfl rfl; try simp only [Act.put, List.setIfInBounds_toArray, List.set_cons_zero, List.set_cons_succ]))
  refine wpO_loudE rfl fun K hK => ?_
  go_simp
  refine (heard_23 h.me h.other x (some ⟨w.heap.size + 1, 0, none⟩) _ (by have := HSL.out; rw [World.size_alloc] at this; exact this)).mono ?_
  rintro e w1 ⟨he, hf1⟩
  rw [HHD.out] at he
  obtain rfl := he
  refine hK _ _ ⟨hf1, ?_⟩
  clear hK K
  repeat (first
    | (apply wpO_pure rfl rfl; (focus (intro w'; go_simp; (try rfl); done)); try simp only [Act.put, List.setIfInBounds_toArray, List.set_cons_zero, List.set_cons_succ])
    | (apply wpO_read rfl rfl; (focus (intro w' hf' hs'; (try simp only [World.size_drew, World.cell?_drew, World.size_alloc, World.size_setCell] at hs'); go_simp; (try rfl); done)); try simp only [Act.put, List.setIfInBounds_toArray, List.set_cons_zero, List.set_cons_succ])
    | (apply wpO_skip (by decide) rfl rfl; try simp only [Act.put, List.setIfInBounds_toArray, List.set_cons_zero, List.set_cons_succ]))
  refine wpO_nil ?_
  go_wp2
  exact bodyPost_ret (htake_res rfl rfl rfl) rfl ⟨TakeOut.nils _ _, (((Fr.refl No w).alloc _).alloc _).drew.trans hf1⟩
set_option maxRecDepth 100000 in
set_option maxHeartbeats 1000000 in
theorem take_none (p m : Nat) (u : Value) (bs : List Nat) (h : HubS) (x : Msg) (w : World) (H : HubAt w p m u bs h) (hh : heardB h.me h.other [2, 3] x = true) (hn : findR x.n h.l = none) :
    Calls Try.prog 7 #[.pointer (some ⟨p, 0, none⟩), x.val] w fun e w' => TakeOut w' e [] [] 30 ∧ Fr No w w' := by
  have HSL := Lib.hid (Sl.of_new (w.alloc (Obj.cells x.vals.toArray 26)) 3 1 2 #[.int .i64 2, .int .i64 3] [.int .i64 2, .int .i64 3] rfl rfl).drew
  have HH1 := Lib.hid (H.fr0 ((Fr.refl No w).alloc (Obj.cells x.vals.toArray 26)))
  have HX := Lib.hid (Blk.new w 26 x.vals)
  have HHD := Lib.hid hh
  have d0 := H.blk.cell 0
  have d1 := H.blk.cell 1
  have dl := H.blk.lt
  simp only [List.getElem?_cons_zero, List.getElem?_cons_succ] at d0 d1
  clear hh
  go_enter Try.func7, Try.ntmps7
  go_wp2
  refine wp_region_o [(0, 0), (1, 0), (2, 0), (3, 1), (4, 1), (5, 2), (6, 2), (7, 0), (8, 0)] (by kernel_rfl) (by kernel_rfl) ?_
  repeat (first
    | (apply wpO_pure rfl rfl; (focus (intro w'; go_simp; (try rfl); done)); try simp only [Act.put, List.setIfInBounds_toArray, List.set_cons_zero, List.set_cons_succ])
    | (apply wpO_read rfl rfl; (focus (intro w' hf' hs'; (try simp only [World.size_drew, World.cell?_drew, World.size_alloc, World.size_setCell] at hs'); go_simp; (try rfl); done)); try simp only [Act.put, List.setIfInBounds_toArray, List.set_cons_zero, List.set_cons_succ])
    | (apply wpO_skip (by decide) rfl rfl; try simp only [Act.put, List.setIfInBounds_toArray, List.set_cons_zero, List.set_cons_succ]))
  refine wpO_loudE rfl fun K hK => ?_
  go_simp
  refine hK _ _ ⟨by (repeat (first | exact Fr.refl _ _ | assumption | refine Fr.drew ?_ | refine Fr.drewL ?_ | refine Fr.alloc ?_ _)), ?_⟩
  clear hK K
  repeat (first
    | (apply wpO_pure rfl rfl; (focus (intro w'; go_simp; (try rfl); done)); try simp only [Act.put, List.setIfInBounds_toArray, List.set_cons_zero, List.set_cons_succ])
    | (apply wpO_read rfl rfl; (focus (intro w' hf' hs'; (try simp only [World.size_drew, World.cell?_drew, World.size_alloc, World.size_setCell] at hs'); go_simp; (try rfl); done)); try simp only [Act.put, List.setIfInBounds_toArray, List.set_cons_zero, List.set_cons_succ])
    | (apply wpO_skip (by decide) rfl rfl; try simp only [Act.put, List.setIfInBounds_toArray, List.set_cons_zero, List.set_cons_succ]))
  refine wpO_loudE rfl fun K hK => ?_
  go_simp
  refine (heard_23 h.me h.other x (some ⟨w.heap.size + 1, 0, none⟩) _ (by have := HSL.out; rw [World.size_alloc] at this; exact this)).mono ?_
  rintro e w1 ⟨he, hf1⟩
  rw [HHD.out] at he
  obtain rfl := he
  refine hK _ _ ⟨hf1, ?_⟩
  clear hK K
  have H := Lib.hid H
  have HF1 : Hid (Fr No w w1) := Lib.hid ((((Fr.refl No w).alloc (Obj.cells x.vals.toArray 26)).alloc _).drew.trans hf1)
  have HH2 := Lib.hid (H.out.fr0 HF1.out)
  have HX2 := Lib.hid (((HX.out.alloc _).drew).fr hf1 (fun h => h))
  obtain ⟨q0, q1, q2, q3, q4, q5, q6, q7⟩ := HX2.out.cells8
  have q8 := HX2.out.lt
  have q9 := HX2.out.frozens
  have d2 := HH2.out.blk.cell 2
  have d3 := HH2.out.blk.lt
  simp only [List.getElem?_cons_zero, List.getElem?_cons_succ] at d2
  clear hf1 d0 d1 dl
  repeat (first
    | (apply wpO_pure rfl rfl; (focus (intro w'; go_simp; (try rfl); done)); try simp only [Act.put, List.setIfInBounds_toArray, List.set_cons_zero, List.set_cons_succ])
    | (apply wpO_read rfl rfl; (focus (intro w' hf' hs'; (try simp only [World.size_drew, World.cell?_drew, World.size_alloc, World.size_setCell] at hs'); go_simp; (try rfl); done)); try simp only [Act.put, List.setIfInBounds_toArray, List.set_cons_zero, List.set_cons_succ])
    | (apply wpO_skip (by decide) rfl rfl; try simp only [Act.put, List.setIfInBounds_toArray, List.set_cons_zero, List.set_cons_succ]))
  refine wpO_nil ?_
  go_wp2
  refine wp_region_o [(0, 0), (1, 0), (2, 0), (4, 0), (3, 1), (5, 1), (6, 1), (7, 0), (8, 0), (9, 0), (10, 0), (11, 0)] (by kernel_rfl) (by kernel_rfl) ?_
  repeat (first
    | (apply wpO_pure rfl rfl; (focus (intro w'; go_simp; (try rfl); done)); try simp only [Act.put, List.setIfInBounds_toArray, List.set_cons_zero, List.set_cons_succ])
    | (apply wpO_read rfl rfl; (focus (intro w' hf' hs'; (try simp only [World.size_drew, World.cell?_drew, World.size_alloc, World.size_setCell] at hs'); go_simp; (try rfl); done)); try simp only [Act.put, List.setIfInBounds_toArray, List.set_cons_zero, List.set_cons_succ])
    | (apply wpO_skip (by decide) rfl rfl; try simp only [Act.put, List.setIfInBounds_toArray, List.set_cons_zero, List.set_cons_succ]))
  apply wpO_read rfl rfl
  (focus (intro w' hf' hs'; have hrd := ((HH2.out.fr0 ((Fr.refl No w1).drew)).fr0 hf').look_none hn; go_simp; (try rfl); done))
  try simp only [Act.put, List.setIfInBounds_toArray, List.set_cons_zero, List.set_cons_succ]
  repeat (first
    | (apply wpO_pure rfl rfl; (focus (intro w'; go_simp; (try rfl); done)); try simp only [Act.put, List.setIfInBounds_toArray, List.set_cons_zero, List.set_cons_succ])
    | (apply wpO_read rfl rfl; (focus (intro w' hf' hs'; (try simp only [World.size_drew, World.cell?_drew, World.size_alloc, World.size_setCell] at hs'); go_simp; (try rfl); done)); try simp only [Act.put, List.setIfInBounds_toArray, List.set_cons_zero, List.set_cons_succ])
    | (apply wpO_skip (by decide) rfl rfl; try simp only [Act.put, List.setIfInBounds_toArray, List.set_cons_zero, List.set_cons_succ]))
  refine wpO_nil ?_
  go_wp2
  exact bodyPost_ret (htake_res rfl rfl rfl) rfl ⟨TakeOut.nils _ _, HF1.out.drew⟩
theorem fr_cellD {S : Nat → Prop} {a w : World} {g i : Nat} {v : Value} (h : Fr No a w) (hs : S g) : Fr S a (w.setCell ⟨g, i, none⟩ v).drew := (Fr.trans (h.any S) (fr_cell hs)).drew
theorem HubAt.stSet {w : World} {p m : Nat} {u : Value} {bs : List Nat} {h : HubS} (H : HubAt w p m u bs h) {i b : Nat} {r : Req} (hb : bs[i]? = some b) (hr : h.l[i]? = some r) {n v v' : Int} (hi : r.run = n) (hv : v = v') :
    HubAt (w.setCell ⟨b, 0, none⟩ (.int .i64 v)) p m u bs { h with l := setR n v' h.l } := by
  subst hv hi
  rw [setR_set H.runs hr]
  exact H.setReq hb hr rfl rfl
set_option maxRecDepth 100000 in
set_option maxHeartbeats 1000000 in
theorem take_under (p m : Nat) (u : Value) (bs : List Nat) (h : HubS) (x : Msg) (w : World) (H : HubAt w p m u bs h) (hh : heardB h.me h.other [2, 3] x = true) {i b : Nat} {r : Req} (hb : bs[i]? = some b) (hr : h.l[i]? = some r) (hi : r.run = x.n) (hk : x.kind = 2) :
    Calls Try.prog 7 #[.pointer (some ⟨p, 0, none⟩), x.val] w fun e w' => TakeOut w' e [] [] 0 ∧ HubAt w' p m u bs { h with l := setR x.n (max r.state 1) h.l } ∧ Fr (fun k => k = b) w w' := by
  have HK := Lib.hid hk
  clear hk
  have HSL := Lib.hid (Sl.of_new (w.alloc (Obj.cells x.vals.toArray 26)) 3 1 2 #[.int .i64 2, .int .i64 3] [.int .i64 2, .int .i64 3] rfl rfl).drew
  have HH1 := Lib.hid (H.fr0 ((Fr.refl No w).alloc (Obj.cells x.vals.toArray 26)))
  have HX := Lib.hid (Blk.new w 26 x.vals)
  have HHD := Lib.hid hh
  have d0 := H.blk.cell 0
  have d1 := H.blk.cell 1
  have dl := H.blk.lt
  simp only [List.getElem?_cons_zero, List.getElem?_cons_succ] at d0 d1
  clear hh
  go_enter Try.func7, Try.ntmps7
  go_wp2
  refine wp_region_o [(0, 0), (1, 0), (2, 0), (3, 1), (4, 1), (5, 2), (6, 2), (7, 0), (8, 0)] (by kernel_rfl) (by kernel_rfl) ?_
  repeat (first
    | (apply wpO_pure rfl rfl; (focus (intro w'; go_simp; (try rfl); done)); try simp only [Act.put, List.setIfInBounds_toArray, List.set_cons_zero, List.set_cons_succ])
    | (apply wpO_read rfl rfl; (focus (intro w' hf' hs'; (try simp only [World.size_drew, World.cell?_drew, World.size_alloc, World.size_setCell] at hs'); go_simp; (try rfl); done)); try simp only [Act.put, List.setIfInBounds_toArray, List.set_cons_zero, List.set_cons_succ])
    | (apply wpO_skip (by decide) rfl rfl; try simp only [Act.put, List.setIfInBounds_toArray, List.set_cons_zero, List.set_cons_succ]))
  refine wpO_loudE rfl fun K hK => ?_
  go_simp
  refine hK _ _ ⟨by (repeat (first | exact Fr.refl _ _ | assumption | refine Fr.drew ?_ | refine Fr.drewL ?_ | refine Fr.alloc ?_ _)), ?_⟩
  clear hK K
  repeat (first
    | (apply wpO_pure rfl rfl; (focus (intro w'; go_simp; (try rfl); done)); try simp only [Act.put, List.setIfInBounds_toArray, List.set_cons_zero, List.set_cons_succ])
    | (apply wpO_read rfl rfl; (focus (intro w' hf' hs'; (try simp only [World.size_drew, World.cell?_drew, World.size_alloc, World.size_setCell] at hs'); go_simp; (try rfl); done)); try simp only [Act.put, List.setIfInBounds_toArray, List.set_cons_zero, List.set_cons_succ])
    | (apply wpO_skip (by decide) rfl rfl; try simp only [Act.put, List.setIfInBounds_toArray, List.set_cons_zero, List.set_cons_succ]))
  refine wpO_loudE rfl fun K hK => ?_
  go_simp
  refine (heard_23 h.me h.other x (some ⟨w.heap.size + 1, 0, none⟩) _ (by have := HSL.out; rw [World.size_alloc] at this; exact this)).mono ?_
  rintro e w1 ⟨he, hf1⟩
  rw [HHD.out] at he
  obtain rfl := he
  refine hK _ _ ⟨hf1, ?_⟩
  clear hK K
  have H := Lib.hid H
  have HHR := Lib.hid hr
  have HHB := Lib.hid hb
  have HHI := Lib.hid hi
  clear hr hb hi
  have HF1 : Hid (Fr No w w1) := Lib.hid ((((Fr.refl No w).alloc (Obj.cells x.vals.toArray 26)).alloc _).drew.trans hf1)
  have HH2 := Lib.hid (H.out.fr0 HF1.out)
  have HX2 := Lib.hid (((HX.out.alloc _).drew).fr hf1 (fun h => h))
  obtain ⟨q0, q1, q2, q3, q4, q5, q6, q7⟩ := HX2.out.cells8
  have q8 := HX2.out.lt
  have q9 := HX2.out.frozens
  have d2 := HH2.out.blk.cell 2
  have d3 := HH2.out.blk.lt
  simp only [List.getElem?_cons_zero, List.getElem?_cons_succ] at d2
  clear hf1 d0 d1 dl
  repeat (first
    | (apply wpO_pure rfl rfl; (focus (intro w'; go_simp; (try rfl); done)); try simp only [Act.put, List.setIfInBounds_toArray, List.set_cons_zero, List.set_cons_succ])
    | (apply wpO_read rfl rfl; (focus (intro w' hf' hs'; (try simp only [World.size_drew, World.cell?_drew, World.size_alloc, World.size_setCell] at hs'); go_simp; (try rfl); done)); try simp only [Act.put, List.setIfInBounds_toArray, List.set_cons_zero, List.set_cons_succ])
    | (apply wpO_skip (by decide) rfl rfl; try simp only [Act.put, List.setIfInBounds_toArray, List.set_cons_zero, List.set_cons_succ]))
  refine wpO_nil ?_
  go_wp2
  have hl2 := fun w' (hf' : Fr No w1.drew w') => ((HH2.out.fr0 ((Fr.refl No w1).drew)).fr0 hf').look2 HHB.out HHR.out
  rw [HHI.out] at hl2
  have HL2 := Lib.hid hl2
  clear hl2
  refine wp_region_o [(0, 0), (1, 0), (2, 0), (4, 0), (3, 1), (5, 1), (6, 1), (7, 0), (8, 0), (9, 0), (10, 0), (11, 0)] (by kernel_rfl) (by kernel_rfl) ?_
  repeat (first
    | (apply wpO_pure rfl rfl; (focus (intro w'; go_simp; (try rfl); done)); try simp only [Act.put, List.setIfInBounds_toArray, List.set_cons_zero, List.set_cons_succ])
    | (apply wpO_read rfl rfl; (focus (intro w' hf' hs'; (try simp only [World.size_drew, World.cell?_drew, World.size_alloc, World.size_setCell] at hs'); go_simp; (try rfl); done)); try simp only [Act.put, List.setIfInBounds_toArray, List.set_cons_zero, List.set_cons_succ])
    | (apply wpO_skip (by decide) rfl rfl; try simp only [Act.put, List.setIfInBounds_toArray, List.set_cons_zero, List.set_cons_succ]))
  apply wpO_read rfl rfl
  (focus (intro w' hf' hs'; have hrd := HL2.out w' hf'; go_simp; (try rfl); done))
  try simp only [Act.put, List.setIfInBounds_toArray, List.set_cons_zero, List.set_cons_succ]
  repeat (first
    | (apply wpO_pure rfl rfl; (focus (intro w'; go_simp; (try rfl); done)); try simp only [Act.put, List.setIfInBounds_toArray, List.set_cons_zero, List.set_cons_succ])
    | (apply wpO_read rfl rfl; (focus (intro w' hf' hs'; (try simp only [World.size_drew, World.cell?_drew, World.size_alloc, World.size_setCell] at hs'); go_simp; (try rfl); done)); try simp only [Act.put, List.setIfInBounds_toArray, List.set_cons_zero, List.set_cons_succ])
    | (apply wpO_skip (by decide) rfl rfl; try simp only [Act.put, List.setIfInBounds_toArray, List.set_cons_zero, List.set_cons_succ]))
  refine wpO_nil ?_
  have hblk := HH2.out.req i b r HHB.out HHR.out
  have e0 := hblk.cell 0
  have el := hblk.lt
  have ez := hblk.frozens
  simp only [List.getElem?_cons_zero, List.getElem?_cons_succ] at e0
  clear hblk
  rw [HK.out] at q2
  go_wp2
  all_goals exact bodyPost_ret (htake_res rfl rfl rfl) rfl ⟨TakeOut.nils _ _, (HH2.out.stSet HHB.out HHR.out HHI.out (by rw [Int.max_def]; all_goals (split <;> omega))).fr0 ((Fr.refl No _).drew), fr_cellD HF1.out rfl⟩
end Go.Proofs.Ytohnchkoldbpcaa

/- agent: a hub's Take of a Done. -/
namespace Go.Proofs.Ytohnchkoldbpcaa
open Go Go.RowKit Go.Proofs

theorem HubAt.stSame {w : World} {p m : Nat} {u : Value} {bs : List Nat} {h : HubS} (H : HubAt w p m u bs h) {i : Nat} {r : Req} (hr : h.l[i]? = some r) {n : Int} (hi : r.run = n) (hs : r.state = 2) : { h with l := setR n 2 h.l } = h := by
  subst hi
  rw [setR_set H.runs hr]
  have e : ({ r with state := 2 } : Req) = r := by rw [← hs]
  rw [e]
  have e2 : h.l.set i r = h.l := by
    apply List.ext_getElem?
    intro k
    rw [List.getElem?_set]
    split
    · rename_i e
      subst e
      have hl := (List.getElem?_eq_some_iff.1 hr).1
      have he := (List.getElem?_eq_some_iff.1 hr).2
      simp [hl, he]
    · rfl
  rw [e2]
def TRel (w2 : World) (p m : Nat) (u : Value) (bs : List Nat) (h1 : HubS) (F g : Nat) (wr : World) : Prop :=
  ∃ f : Nat, f + g = h1.l.length ∧ HubAt wr p m u bs { h1 with frm := f } ∧ advR h1.l f = F ∧ Fr (fun k => k = p) w2 wr
set_option maxRecDepth 100000 in
set_option maxHeartbeats 300000 in
theorem take_done2 (p m : Nat) (u : Value) (bs : List Nat) (h : HubS) (x : Msg) (w : World) (H : HubAt w p m u bs h) (hh : heardB h.me h.other [2, 3] x = true) {i b : Nat} {r : Req} (hb : bs[i]? = some b) (hr : h.l[i]? = some r) (hi : r.run = x.n) (hk : x.kind = 3) (hs : r.state = 2) :
    Calls Try.prog 7 #[.pointer (some ⟨p, 0, none⟩), x.val] w fun e w' => TakeOut w' e [sayM h.me h.other 4 x.n 0] (if r.state = 2 then [] else [(x.n, x.code)]) 0 ∧ HubAt w' p m u bs { h with l := setR x.n 2 h.l, frm := advR (setR x.n 2 h.l) h.frm } ∧ Fr (HubF p m u bs) w w' := by
  obtain ⟨A, c, rfl, hcc⟩ := own_shape H.row
  have HK := Lib.hid hk
  have HS := Lib.hid hs
  obtain ⟨h1, hh1⟩ : ∃ h1 : HubS, h1 = { h with l := setR x.n 2 h.l } := ⟨_, rfl⟩
  have HH1D := Lib.hid hh1
  obtain ⟨T, hT⟩ : ∃ T : HubS, T = { h with l := setR x.n 2 h.l, frm := advR (setR x.n 2 h.l) h.frm } := ⟨_, rfl⟩
  rw [← hT, if_pos hs]
  have HT := Lib.hid (show T = { h1 with frm := advR h1.l h1.frm } by rw [hT, hh1])
  clear hk hs hh1 hT
  have HSL := Lib.hid (Sl.of_new (w.alloc (Obj.cells x.vals.toArray 26)) 3 1 2 #[.int .i64 2, .int .i64 3] [.int .i64 2, .int .i64 3] rfl rfl).drew
  have HH1 := Lib.hid (H.fr0 ((Fr.refl No w).alloc (Obj.cells x.vals.toArray 26)))
  have HX := Lib.hid (Blk.new w 26 x.vals)
  have HHD := Lib.hid hh
  have d0 := H.blk.cell 0
  have d1 := H.blk.cell 1
  have dl := H.blk.lt
  simp only [List.getElem?_cons_zero, List.getElem?_cons_succ] at d0 d1
  clear hh
  go_enter Try.func7, Try.ntmps7
  go_wp2
  refine wp_region_o [(0, 0), (1, 0), (2, 0), (3, 1), (4, 1), (5, 2), (6, 2), (7, 0), (8, 0)] (by kernel_rfl) (by kernel_rfl) ?_
  repeat (first
    | (apply wpO_pure rfl rfl; (focus (intro w'; go_simp; (try rfl); done)); try simp only [Act.put, List.setIfInBounds_toArray, List.set_cons_zero, List.set_cons_succ])
    | (apply wpO_read rfl rfl; (focus (intro w' hf' hs'; (try simp only [World.size_drew, World.cell?_drew, World.size_alloc, World.size_setCell] at hs'); go_simp; (try rfl); done)); try simp only [Act.put, List.setIfInBounds_toArray, List.set_cons_zero, List.set_cons_succ])
    | (apply wpO_skip (by decide) rfl rfl; try simp only [Act.put, List.setIfInBounds_toArray, List.set_cons_zero, List.set_cons_succ]))
  refine wpO_loudE rfl fun K hK => ?_
  go_simp
  refine hK _ _ ⟨by (repeat (first | exact Fr.refl _ _ | assumption | refine Fr.drew ?_ | refine Fr.drewL ?_ | refine Fr.alloc ?_ _)), ?_⟩
  clear hK K
  repeat (first
    | (apply wpO_pure rfl rfl; (focus (intro w'; go_simp; (try rfl); done)); try simp only [Act.put, List.setIfInBounds_toArray, List.set_cons_zero, List.set_cons_succ])
    | (apply wpO_read rfl rfl; (focus (intro w' hf' hs'; (try simp only [World.size_drew, World.cell?_drew, World.size_alloc, World.size_setCell] at hs'); go_simp; (try rfl); done)); try simp only [Act.put, List.setIfInBounds_toArray, List.set_cons_zero, List.set_cons_succ])
    | (apply wpO_skip (by decide) rfl rfl; try simp only [Act.put, List.setIfInBounds_toArray, List.set_cons_zero, List.set_cons_succ]))
  refine wpO_loudE rfl fun K hK => ?_
  go_simp
  refine (heard_23 h.me h.other x (some ⟨w.heap.size + 1, 0, none⟩) _ (by have := HSL.out; rw [World.size_alloc] at this; exact this)).mono ?_
  rintro e w1 ⟨he, hf1⟩
  rw [HHD.out] at he
  obtain rfl := he
  refine hK _ _ ⟨hf1, ?_⟩
  clear hK K
  have H := Lib.hid H
  have HHR := Lib.hid hr
  have HHB := Lib.hid hb
  have HHI := Lib.hid hi
  clear hr hb hi
  have HF1 : Hid (Fr No w w1) := Lib.hid ((((Fr.refl No w).alloc (Obj.cells x.vals.toArray 26)).alloc _).drew.trans hf1)
  have HH2 := Lib.hid (H.out.fr0 HF1.out)
  have HX2 := Lib.hid (((HX.out.alloc _).drew).fr hf1 (fun h => h))
  obtain ⟨q0, q1, q2, q3, q4, q5, q6, q7⟩ := HX2.out.cells8
  have q8 := HX2.out.lt
  have q9 := HX2.out.frozens
  have d2 := HH2.out.blk.cell 2
  have d3 := HH2.out.blk.lt
  simp only [List.getElem?_cons_zero, List.getElem?_cons_succ] at d2
  clear hf1 d0 d1 dl
  repeat (first
    | (apply wpO_pure rfl rfl; (focus (intro w'; go_simp; (try rfl); done)); try simp only [Act.put, List.setIfInBounds_toArray, List.set_cons_zero, List.set_cons_succ])
    | (apply wpO_read rfl rfl; (focus (intro w' hf' hs'; (try simp only [World.size_drew, World.cell?_drew, World.size_alloc, World.size_setCell] at hs'); go_simp; (try rfl); done)); try simp only [Act.put, List.setIfInBounds_toArray, List.set_cons_zero, List.set_cons_succ])
    | (apply wpO_skip (by decide) rfl rfl; try simp only [Act.put, List.setIfInBounds_toArray, List.set_cons_zero, List.set_cons_succ]))
  refine wpO_nil ?_
  go_wp2
  have hl2 := fun w' (hf' : Fr No w1.drew w') => ((HH2.out.fr0 ((Fr.refl No w1).drew)).fr0 hf').look2 HHB.out HHR.out
  rw [HHI.out] at hl2
  have HL2 := Lib.hid hl2
  clear hl2
  refine wp_region_o [(0, 0), (1, 0), (2, 0), (4, 0), (3, 1), (5, 1), (6, 1), (7, 0), (8, 0), (9, 0), (10, 0), (11, 0)] (by kernel_rfl) (by kernel_rfl) ?_
  repeat (first
    | (apply wpO_pure rfl rfl; (focus (intro w'; go_simp; (try rfl); done)); try simp only [Act.put, List.setIfInBounds_toArray, List.set_cons_zero, List.set_cons_succ])
    | (apply wpO_read rfl rfl; (focus (intro w' hf' hs'; (try simp only [World.size_drew, World.cell?_drew, World.size_alloc, World.size_setCell] at hs'); go_simp; (try rfl); done)); try simp only [Act.put, List.setIfInBounds_toArray, List.set_cons_zero, List.set_cons_succ])
    | (apply wpO_skip (by decide) rfl rfl; try simp only [Act.put, List.setIfInBounds_toArray, List.set_cons_zero, List.set_cons_succ]))
  apply wpO_read rfl rfl
  (focus (intro w' hf' hs'; have hrd := HL2.out w' hf'; go_simp; (try rfl); done))
  try simp only [Act.put, List.setIfInBounds_toArray, List.set_cons_zero, List.set_cons_succ]
  repeat (first
    | (apply wpO_pure rfl rfl; (focus (intro w'; go_simp; (try rfl); done)); try simp only [Act.put, List.setIfInBounds_toArray, List.set_cons_zero, List.set_cons_succ])
    | (apply wpO_read rfl rfl; (focus (intro w' hf' hs'; (try simp only [World.size_drew, World.cell?_drew, World.size_alloc, World.size_setCell] at hs'); go_simp; (try rfl); done)); try simp only [Act.put, List.setIfInBounds_toArray, List.set_cons_zero, List.set_cons_succ])
    | (apply wpO_skip (by decide) rfl rfl; try simp only [Act.put, List.setIfInBounds_toArray, List.set_cons_zero, List.set_cons_succ]))
  refine wpO_nil ?_
  have hblk := HH2.out.req i b r HHB.out HHR.out
  have e0 := hblk.cell 0
  have el := hblk.lt
  have ez := hblk.frozens
  simp only [List.getElem?_cons_zero, List.getElem?_cons_succ] at e0
  clear hblk
  rw [HK.out] at q2
  rw [HS.out] at e0
  go_wp2
  generalize hW : World.drew _ = W2
  have HLN : Hid (h1.l.length = h.l.length) := Lib.hid (by rw [HH1D.out]; simp [setR])
  have hL2 : HubAt W2 p m (.slice A h.l.length c) bs h1 := by
    subst hW
    have e := HH1D.out.trans (HH2.out.stSame HHR.out HHI.out HS.out)
    rw [e]
    exact HH2.out.fr0 (by (repeat (first | exact Fr.refl _ _ | assumption | refine Fr.drew ?_ | refine Fr.drewL ?_ | refine Fr.alloc ?_ _)))
  have hF2 : Fr (fun k => k = b) w W2 := by subst hW; exact (HF1.out.drew).any _
  have hX3 : Blk W2 w.heap.size 26 x.vals := by subst hW; exact HX2.out
  have hme : h1.me = h.me ∧ h1.other = h.other := by rw [HH1D.out]; exact ⟨rfl, rfl⟩
  clear hW
  have HL2 := Lib.hid hL2
  have HF2 := Lib.hid hF2
  have HX3 := Lib.hid hX3
  have HME := Lib.hid hme
  have hnp : p ≠ w.heap.size := hL2.blk.ne_ hX3 (by decide)
  clear hL2 hF2 hX3 hme
  clear q0 q1 q2 q3 q4 q5 q6 q7 q8 q9 d2 d3 e0 el ez
  obtain ⟨F, hF⟩ : ∃ F, F = advR h1.l h1.frm := ⟨_, rfl⟩
  have HFF := Lib.hid hF
  clear hF
  have hlen : (h.l.length : Int) ≤ 2147483647 := by have := HL2.out.most; have := HLN.out; omega
  go_loopg [] (h1.l.length - h1.frm) (fun g wr => TRel W2 p m (.slice A h.l.length c) bs h1 F g wr)
  case atStart => exact ⟨h1.frm, by have := HL2.out.frm; omega, by first | exact HL2.out | exact HL2.out.fr0 ((Fr.refl No _).drew), HFF.out.symm, by first | exact Fr.refl _ _ | exact (Fr.refl _ _).drew⟩
  case round =>
    obtain ⟨f, hgf, hH, hadv, hFp⟩ := hrel
    have HH3 := Lib.hid hH
    have HAD := Lib.hid hadv
    have HFP := Lib.hid hFp
    have d2 := hH.blk.cell 2
    have d3 := hH.blk.cell 3
    have d4 := hH.blk.cell 4
    have dl := hH.blk.lt
    have dz := hH.blk.frozens
    simp only [List.getElem?_cons_zero, List.getElem?_cons_succ] at d2 d3 d4
    have hf0 : (0 : Int) ≤ (f : Int) := by omega
    have hl0 : (0 : Int) ≤ (h.l.length : Int) := by omega
    clear hadv hFp
    by_cases hlt : f < h1.l.length
    · have hf1 : (f : Int) < (h.l.length : Int) := by have := HLN.out; omega
      obtain ⟨b1, r1, hb1, hr1, hblk1⟩ := hH.at_ (i := f) hlt
      obtain ⟨g1, c1, he1, hc1, hg1, hcell⟩ := hH.row_at hr1
      injection he1 with he1 he2 he3
      subst he1 he3
      have HLK := Lib.hid (fun w' (hf' : Fr No wr.drew w') => ((hH.fr0 ((Fr.refl No wr).drew)).fr0 hf').look hb1 hr1)
      have HR1 := Lib.hid hr1
      have e0 := hblk1.cell 0
      have el := hblk1.lt
      simp only [List.getElem?_cons_zero, List.getElem?_cons_succ] at e0
      clear hH hb1 hr1 hblk1
      by_cases hst : r1.state = 2
      · have HST := Lib.hid hst
        rw [hst] at e0
        clear hst
        go_wp2
        refine wp_region_o [(0, 0), (1, 0), (2, 0), (4, 0), (5, 0), (6, 0), (3, 1), (7, 1), (8, 1), (9, 0), (10, 0), (11, 0), (12, 0), (13, 0), (15, 0), (16, 0), (17, 0), (19, 0), (20, 0), (21, 0), (14, 1), (18, 1), (22, 1), (23, 0), (24, 1), (25, 1), (26, 0), (27, 0), (28, 1), (29, 0), (30, 0)] (by kernel_rfl) (by kernel_rfl) ?_
        repeat (first
          | (apply wpO_pure rfl rfl; (focus (intro w'; go_simp; (try rfl); done)); try simp only [Act.put, List.setIfInBounds_toArray, List.set_cons_zero, List.set_cons_succ])
          | (apply wpO_read rfl rfl; (focus (intro w' hf' hs'; (try simp only [World.size_drew, World.cell?_drew, World.size_alloc, World.size_setCell] at hs'); go_simp; (try rfl); done)); try simp only [Act.put, List.setIfInBounds_toArray, List.set_cons_zero, List.set_cons_succ])
          | (apply wpO_skip (by decide) rfl rfl; try simp only [Act.put, List.setIfInBounds_toArray, List.set_cons_zero, List.set_cons_succ]))
        apply wpO_read rfl rfl
        (focus (intro w' hf' hs'; have hrd := HLK.out w' hf'; go_simp; (try rfl); done))
        try simp only [Act.put, List.setIfInBounds_toArray, List.set_cons_zero, List.set_cons_succ]
        repeat (first
          | (apply wpO_pure rfl rfl; (focus (intro w'; go_simp; (try rfl); done)); try simp only [Act.put, List.setIfInBounds_toArray, List.set_cons_zero, List.set_cons_succ])
          | (apply wpO_read rfl rfl; (focus (intro w' hf' hs'; (try simp only [World.size_drew, World.cell?_drew, World.size_alloc, World.size_setCell] at hs'); go_simp; (try rfl); done)); try simp only [Act.put, List.setIfInBounds_toArray, List.set_cons_zero, List.set_cons_succ])
          | (apply wpO_skip (by decide) rfl rfl; try simp only [Act.put, List.setIfInBounds_toArray, List.set_cons_zero, List.set_cons_succ]))
        refine wpO_nil ?_
        go_wp2
        go_roundg (h1.l.length - (f + 1))
        case measure => omega
        case rel => exact ⟨f + 1, by omega, (by have hq := HH3.out.setFrm (f := f + 1) hlt; rw [show ((f + 1 : Nat) : Int) = (f : Int) + 1 by omega] at hq; exact hq.fr0 ((Fr.refl No _).drew)), by rw [← advR_step HR1.out HST.out]; exact HAD.out, (Fr.trans HFP.out (fr_cell rfl)).drew⟩
      · have HE := Lib.hid ((advR_stop HR1.out hst).symm.trans HAD.out)
        have hst1 : (r1.state == 2) = false := by simpa using hst
        clear hst
        go_wp2
        refine wp_region_o [(0, 0), (1, 0), (2, 0), (4, 0), (5, 0), (6, 0), (3, 1), (7, 1), (8, 1), (9, 0), (10, 0), (11, 0), (12, 0), (13, 0), (15, 0), (16, 0), (17, 0), (19, 0), (20, 0), (21, 0), (14, 1), (18, 1), (22, 1), (23, 0), (24, 1), (25, 1), (26, 0), (27, 0), (28, 1), (29, 0), (30, 0)] (by kernel_rfl) (by kernel_rfl) ?_
        repeat (first
          | (apply wpO_pure rfl rfl; (focus (intro w'; go_simp; (try rfl); done)); try simp only [Act.put, List.setIfInBounds_toArray, List.set_cons_zero, List.set_cons_succ])
          | (apply wpO_read rfl rfl; (focus (intro w' hf' hs'; (try simp only [World.size_drew, World.cell?_drew, World.size_alloc, World.size_setCell] at hs'); go_simp; (try rfl); done)); try simp only [Act.put, List.setIfInBounds_toArray, List.set_cons_zero, List.set_cons_succ])
          | (apply wpO_skip (by decide) rfl rfl; try simp only [Act.put, List.setIfInBounds_toArray, List.set_cons_zero, List.set_cons_succ]))
        apply wpO_read rfl rfl
        (focus (intro w' hf' hs'; have hrd := HLK.out w' hf'; go_simp; (try rfl); done))
        try simp only [Act.put, List.setIfInBounds_toArray, List.set_cons_zero, List.set_cons_succ]
        repeat (first
          | (apply wpO_pure rfl rfl; (focus (intro w'; go_simp; (try rfl); done)); try simp only [Act.put, List.setIfInBounds_toArray, List.set_cons_zero, List.set_cons_succ])
          | (apply wpO_read rfl rfl; (focus (intro w' hf' hs'; (try simp only [World.size_drew, World.cell?_drew, World.size_alloc, World.size_setCell] at hs'); go_simp; (try rfl); done)); try simp only [Act.put, List.setIfInBounds_toArray, List.set_cons_zero, List.set_cons_succ])
          | (apply wpO_skip (by decide) rfl rfl; try simp only [Act.put, List.setIfInBounds_toArray, List.set_cons_zero, List.set_cons_succ]))
        refine wpO_nil ?_
        have hX4 := HX3.out.fr HFP.out (fun e => hnp (Eq.symm e))
        have n3 := hX4.cell 3
        have nl := hX4.lt
        have d0 := HH3.out.blk.cell 0
        have d1 := HH3.out.blk.cell 1
        simp only [List.getElem?_cons_zero, List.getElem?_cons_succ] at n3 d0 d1
        rw [HME.out.1] at d0
        rw [HME.out.2] at d1
        clear hX4
        go_wp2
        refine wp_region_o [(0, 0), (1, 0), (2, 0), (4, 0), (8, 0), (3, 1), (5, 1), (6, 2), (7, 2), (9, 0), (10, 0), (11, 0)] (by kernel_rfl) (by kernel_rfl) ?_
        repeat (first
          | (apply wpO_pure rfl rfl; (focus (intro w'; go_simp; (try rfl); done)); try simp only [Act.put, List.setIfInBounds_toArray, List.set_cons_zero, List.set_cons_succ])
          | (apply wpO_read rfl rfl; (focus (intro w' hf' hs'; (try simp only [World.size_drew, World.cell?_drew, World.size_alloc, World.size_setCell] at hs'); go_simp; (try rfl); done)); try simp only [Act.put, List.setIfInBounds_toArray, List.set_cons_zero, List.set_cons_succ])
          | (apply wpO_skip (by decide) rfl rfl; try simp only [Act.put, List.setIfInBounds_toArray, List.set_cons_zero, List.set_cons_succ]))
        refine wpO_loudE rfl fun K hK => ?_
        go_simp
        refine (say_any _ _ _ _ _ _).mono ?_
        rintro e w5 ⟨rfl, hf5⟩
        refine hK _ _ ⟨hf5, ?_⟩
        clear hK K
        refine wpO_loudE rfl fun K hK => ?_
        go_simp
        refine hK _ _ ⟨by (repeat (first | exact Fr.refl _ _ | assumption | refine Fr.drew ?_ | refine Fr.drewL ?_ | refine Fr.alloc ?_ _)), ?_⟩
        clear hK K
        repeat (first
          | (apply wpO_pure rfl rfl; (focus (intro w'; go_simp; (try rfl); done)); try simp only [Act.put, List.setIfInBounds_toArray, List.set_cons_zero, List.set_cons_succ])
          | (apply wpO_read rfl rfl; (focus (intro w' hf' hs'; (try simp only [World.size_drew, World.cell?_drew, World.size_alloc, World.size_setCell] at hs'); go_simp; (try rfl); done)); try simp only [Act.put, List.setIfInBounds_toArray, List.set_cons_zero, List.set_cons_succ])
          | (apply wpO_skip (by decide) rfl rfl; try simp only [Act.put, List.setIfInBounds_toArray, List.set_cons_zero, List.set_cons_succ]))
        refine wpO_nil ?_
        go_wp2
        have hw7 : Fr No wr (w5.alloc (Obj.cells (sayM h.me h.other 4 x.n 0).vals.toArray 26)) := Fr.alloc (Fr.trans (by (repeat (first | exact Fr.refl _ _ | assumption | refine Fr.drew ?_ | refine Fr.drewL ?_ | refine Fr.alloc ?_ _))) hf5) _
        exact bodyPost_ret (htake_res rfl rfl rfl) rfl ⟨⟨some ⟨w5.heap.size, 0, none⟩, 1, _, _, rfl, Sl.of_new w5 26 8 1 _ _ rfl rfl, Sl.nil _ _ _ _⟩, by rw [HT.out, ← HFF.out, ← HE.out]; exact HH3.out.fr0 hw7,
          ((HF2.out.mono fun k _ e => .inr (.inr (.inl (by have e : k = b := e; rw [e]; exact List.mem_of_getElem? HHB.out)))).step HFP.out fun i e => .inl (.inl e)).trans (hw7.any _)⟩
    · have HE := Lib.hid ((advR_end (l := h1.l) (f := f) (by have := HH3.out.frm; simp only at this; omega)).symm.trans HAD.out)
      have hlt1 : (h.l.length : Int) ≤ (f : Int) := by have := HLN.out; omega
      have hlt2 : decide ((f : Int) < (h.l.length : Int)) = false := by simpa using hlt1
      have hlt3 : ¬ f < h.l.length := by omega
      have hlt4 : h.l.length ≤ f := by omega
      clear hlt
      go_wp2
      refine wp_region_o [(0, 0), (1, 0), (2, 0), (4, 0), (5, 0), (6, 0), (3, 1), (7, 1), (8, 1), (9, 0), (10, 0), (11, 0), (12, 0), (13, 0), (15, 0), (16, 0), (17, 0), (19, 0), (20, 0), (21, 0), (14, 1), (18, 1), (22, 1), (23, 0), (24, 1), (25, 1), (26, 0), (27, 0), (28, 1), (29, 0), (30, 0)] (by kernel_rfl) (by kernel_rfl) ?_
      repeat (first
        | (apply wpO_pure rfl rfl; (focus (intro w'; go_simp; (try rfl); done)); try simp only [Act.put, List.setIfInBounds_toArray, List.set_cons_zero, List.set_cons_succ])
        | (apply wpO_read rfl rfl; (focus (intro w' hf' hs'; (try simp only [World.size_drew, World.cell?_drew, World.size_alloc, World.size_setCell] at hs'); go_simp; (try rfl); done)); try simp only [Act.put, List.setIfInBounds_toArray, List.set_cons_zero, List.set_cons_succ])
        | (apply wpO_skip (by decide) rfl rfl; try simp only [Act.put, List.setIfInBounds_toArray, List.set_cons_zero, List.set_cons_succ]))
      refine wpO_nil ?_
      have hX4 := HX3.out.fr HFP.out (fun e => hnp (Eq.symm e))
      have n3 := hX4.cell 3
      have nl := hX4.lt
      have d0 := HH3.out.blk.cell 0
      have d1 := HH3.out.blk.cell 1
      simp only [List.getElem?_cons_zero, List.getElem?_cons_succ] at n3 d0 d1
      rw [HME.out.1] at d0
      rw [HME.out.2] at d1
      clear hX4
      go_wp2
      refine wp_region_o [(0, 0), (1, 0), (2, 0), (4, 0), (8, 0), (3, 1), (5, 1), (6, 2), (7, 2), (9, 0), (10, 0), (11, 0)] (by kernel_rfl) (by kernel_rfl) ?_
      repeat (first
        | (apply wpO_pure rfl rfl; (focus (intro w'; go_simp; (try rfl); done)); try simp only [Act.put, List.setIfInBounds_toArray, List.set_cons_zero, List.set_cons_succ])
        | (apply wpO_read rfl rfl; (focus (intro w' hf' hs'; (try simp only [World.size_drew, World.cell?_drew, World.size_alloc, World.size_setCell] at hs'); go_simp; (try rfl); done)); try simp only [Act.put, List.setIfInBounds_toArray, List.set_cons_zero, List.set_cons_succ])
        | (apply wpO_skip (by decide) rfl rfl; try simp only [Act.put, List.setIfInBounds_toArray, List.set_cons_zero, List.set_cons_succ]))
      refine wpO_loudE rfl fun K hK => ?_
      go_simp
      refine (say_any _ _ _ _ _ _).mono ?_
      rintro e w5 ⟨rfl, hf5⟩
      refine hK _ _ ⟨hf5, ?_⟩
      clear hK K
      refine wpO_loudE rfl fun K hK => ?_
      go_simp
      refine hK _ _ ⟨by (repeat (first | exact Fr.refl _ _ | assumption | refine Fr.drew ?_ | refine Fr.drewL ?_ | refine Fr.alloc ?_ _)), ?_⟩
      clear hK K
      repeat (first
        | (apply wpO_pure rfl rfl; (focus (intro w'; go_simp; (try rfl); done)); try simp only [Act.put, List.setIfInBounds_toArray, List.set_cons_zero, List.set_cons_succ])
        | (apply wpO_read rfl rfl; (focus (intro w' hf' hs'; (try simp only [World.size_drew, World.cell?_drew, World.size_alloc, World.size_setCell] at hs'); go_simp; (try rfl); done)); try simp only [Act.put, List.setIfInBounds_toArray, List.set_cons_zero, List.set_cons_succ])
        | (apply wpO_skip (by decide) rfl rfl; try simp only [Act.put, List.setIfInBounds_toArray, List.set_cons_zero, List.set_cons_succ]))
      refine wpO_nil ?_
      go_wp2
      have hw7 : Fr No wr (w5.alloc (Obj.cells (sayM h.me h.other 4 x.n 0).vals.toArray 26)) := Fr.alloc (Fr.trans (by (repeat (first | exact Fr.refl _ _ | assumption | refine Fr.drew ?_ | refine Fr.drewL ?_ | refine Fr.alloc ?_ _))) hf5) _
      exact bodyPost_ret (htake_res rfl rfl rfl) rfl ⟨⟨some ⟨w5.heap.size, 0, none⟩, 1, _, _, rfl, Sl.of_new w5 26 8 1 _ _ rfl rfl, Sl.nil _ _ _ _⟩, by rw [HT.out, ← HFF.out, ← HE.out]; exact HH3.out.fr0 hw7,
        ((HF2.out.mono fun k _ e => .inr (.inr (.inl (by have e : k = b := e; rw [e]; exact List.mem_of_getElem? HHB.out)))).step HFP.out fun i e => .inl (.inl e)).trans (hw7.any _)⟩
end Go.Proofs.Ytohnchkoldbpcaa

/- agent: a hub's Take of a Done that is news. -/
namespace Go.Proofs.Ytohnchkoldbpcaa
open Go Go.RowKit Go.Proofs

theorem fr_cellA {S : Nat → Prop} {a w : World} {g i : Nat} {v : Value} {o : Obj} (h : Fr No a w) (hs : S g) : Fr S a ((w.setCell ⟨g, i, none⟩ v).alloc o) := (Fr.trans (h.any S) (fr_cell hs)).alloc o
theorem Sl.not_blk {w w' : World} {t t' : TypeId} {sz n g : Nat} {A : Option Addr} {xs cs : List Value} (h : Sl w t sz A n xs) (hb : Blk w g t' cs) (ht : t' ≠ t) (hf : Fr (fun k => k = g) w w') : Sl w' t sz A n xs :=
  h.fr hf fun b cur fr hc e => by
    have e : b = g := e
    subst e
    unfold Blk at hb
    rw [hb] at hc
    injection hc with hc
    injection hc with _ hc
    exact ht hc
set_option maxRecDepth 100000 in
set_option maxHeartbeats 1000000 in
theorem take_done1 (p m : Nat) (u : Value) (bs : List Nat) (h : HubS) (x : Msg) (w : World) (H : HubAt w p m u bs h) (hh : heardB h.me h.other [2, 3] x = true) {i b : Nat} {r : Req} (hb : bs[i]? = some b) (hr : h.l[i]? = some r) (hi : r.run = x.n) (hk : x.kind = 3) (hs : r.state ≠ 2) :
    Calls Try.prog 7 #[.pointer (some ⟨p, 0, none⟩), x.val] w fun e w' => TakeOut w' e [sayM h.me h.other 4 x.n 0] (if r.state = 2 then [] else [(x.n, x.code)]) 0 ∧ HubAt w' p m u bs { h with l := setR x.n 2 h.l, frm := advR (setR x.n 2 h.l) h.frm } ∧ Fr (HubF p m u bs) w w' := by
  obtain ⟨A, c, rfl, hcc⟩ := own_shape H.row
  have HK := Lib.hid hk
  have HS := Lib.hid hs
  obtain ⟨h1, hh1⟩ : ∃ h1 : HubS, h1 = { h with l := setR x.n 2 h.l } := ⟨_, rfl⟩
  have HH1D := Lib.hid hh1
  obtain ⟨T, hT⟩ : ∃ T : HubS, T = { h with l := setR x.n 2 h.l, frm := advR (setR x.n 2 h.l) h.frm } := ⟨_, rfl⟩
  rw [← hT, if_neg hs]
  have HT := Lib.hid (show T = { h1 with frm := advR h1.l h1.frm } by rw [hT, hh1])
  clear hk hs hh1 hT
  have HSL := Lib.hid (Sl.of_new (w.alloc (Obj.cells x.vals.toArray 26)) 3 1 2 #[.int .i64 2, .int .i64 3] [.int .i64 2, .int .i64 3] rfl rfl).drew
  have HH1 := Lib.hid (H.fr0 ((Fr.refl No w).alloc (Obj.cells x.vals.toArray 26)))
  have HX := Lib.hid (Blk.new w 26 x.vals)
  have HHD := Lib.hid hh
  have d0 := H.blk.cell 0
  have d1 := H.blk.cell 1
  have dl := H.blk.lt
  simp only [List.getElem?_cons_zero, List.getElem?_cons_succ] at d0 d1
  clear hh
  go_enter Try.func7, Try.ntmps7
  go_wp2
  refine wp_region_o [(0, 0), (1, 0), (2, 0), (3, 1), (4, 1), (5, 2), (6, 2), (7, 0), (8, 0)] (by kernel_rfl) (by kernel_rfl) ?_
  repeat (first
    | (apply wpO_pure rfl rfl; (focus (intro w'; go_simp; (try rfl); done)); try simp only [Act.put, List.setIfInBounds_toArray, List.set_cons_zero, List.set_cons_succ])
    | (apply wpO_read rfl rfl; (focus (intro w' hf' hs'; (try simp only [World.size_drew, World.cell?_drew, World.size_alloc, World.size_setCell] at hs'); go_simp; (try rfl); done)); try simp only [Act.put, List.setIfInBounds_toArray, List.set_cons_zero, List.set_cons_succ])
    | (apply wpO_skip (by decide) rfl rfl; try simp only [Act.put, List.setIfInBounds_toArray, List.set_cons_zero, List.set_cons_succ]))
  refine wpO_loudE rfl fun K hK => ?_
  go_simp
  refine hK _ _ ⟨by (repeat (first | exact Fr.refl _ _ | assumption | refine Fr.drew ?_ | refine Fr.drewL ?_ | refine Fr.alloc ?_ _)), ?_⟩
  clear hK K
  repeat (first
    | (apply wpO_pure rfl rfl; (focus (intro w'; go_simp; (try rfl); done)); try simp only [Act.put, List.setIfInBounds_toArray, List.set_cons_zero, List.set_cons_succ])
    | (apply wpO_read rfl rfl; (focus (intro w' hf' hs'; (try simp only [World.size_drew, World.cell?_drew, World.size_alloc, World.size_setCell] at hs'); go_simp; (try rfl); done)); try simp only [Act.put, List.setIfInBounds_toArray, List.set_cons_zero, List.set_cons_succ])
    | (apply wpO_skip (by decide) rfl rfl; try simp only [Act.put, List.setIfInBounds_toArray, List.set_cons_zero, List.set_cons_succ]))
  refine wpO_loudE rfl fun K hK => ?_
  go_simp
  refine (heard_23 h.me h.other x (some ⟨w.heap.size + 1, 0, none⟩) _ (by have := HSL.out; rw [World.size_alloc] at this; exact this)).mono ?_
  rintro e w1 ⟨he, hf1⟩
  rw [HHD.out] at he
  obtain rfl := he
  refine hK _ _ ⟨hf1, ?_⟩
  clear hK K
  have H := Lib.hid H
  have HHR := Lib.hid hr
  have HHB := Lib.hid hb
  have HHI := Lib.hid hi
  clear hr hb hi
  have HF1 : Hid (Fr No w w1) := Lib.hid ((((Fr.refl No w).alloc (Obj.cells x.vals.toArray 26)).alloc _).drew.trans hf1)
  have HH2 := Lib.hid (H.out.fr0 HF1.out)
  have HX2 := Lib.hid (((HX.out.alloc _).drew).fr hf1 (fun h => h))
  obtain ⟨q0, q1, q2, q3, q4, q5, q6, q7⟩ := HX2.out.cells8
  have q8 := HX2.out.lt
  have q9 := HX2.out.frozens
  have d2 := HH2.out.blk.cell 2
  have d3 := HH2.out.blk.lt
  simp only [List.getElem?_cons_zero, List.getElem?_cons_succ] at d2
  clear hf1 d0 d1 dl
  repeat (first
    | (apply wpO_pure rfl rfl; (focus (intro w'; go_simp; (try rfl); done)); try simp only [Act.put, List.setIfInBounds_toArray, List.set_cons_zero, List.set_cons_succ])
    | (apply wpO_read rfl rfl; (focus (intro w' hf' hs'; (try simp only [World.size_drew, World.cell?_drew, World.size_alloc, World.size_setCell] at hs'); go_simp; (try rfl); done)); try simp only [Act.put, List.setIfInBounds_toArray, List.set_cons_zero, List.set_cons_succ])
    | (apply wpO_skip (by decide) rfl rfl; try simp only [Act.put, List.setIfInBounds_toArray, List.set_cons_zero, List.set_cons_succ]))
  refine wpO_nil ?_
  go_wp2
  have hl2 := fun w' (hf' : Fr No w1.drew w') => ((HH2.out.fr0 ((Fr.refl No w1).drew)).fr0 hf').look2 HHB.out HHR.out
  rw [HHI.out] at hl2
  have HL2 := Lib.hid hl2
  clear hl2
  refine wp_region_o [(0, 0), (1, 0), (2, 0), (4, 0), (3, 1), (5, 1), (6, 1), (7, 0), (8, 0), (9, 0), (10, 0), (11, 0)] (by kernel_rfl) (by kernel_rfl) ?_
  repeat (first
    | (apply wpO_pure rfl rfl; (focus (intro w'; go_simp; (try rfl); done)); try simp only [Act.put, List.setIfInBounds_toArray, List.set_cons_zero, List.set_cons_succ])
    | (apply wpO_read rfl rfl; (focus (intro w' hf' hs'; (try simp only [World.size_drew, World.cell?_drew, World.size_alloc, World.size_setCell] at hs'); go_simp; (try rfl); done)); try simp only [Act.put, List.setIfInBounds_toArray, List.set_cons_zero, List.set_cons_succ])
    | (apply wpO_skip (by decide) rfl rfl; try simp only [Act.put, List.setIfInBounds_toArray, List.set_cons_zero, List.set_cons_succ]))
  apply wpO_read rfl rfl
  (focus (intro w' hf' hs'; have hrd := HL2.out w' hf'; go_simp; (try rfl); done))
  try simp only [Act.put, List.setIfInBounds_toArray, List.set_cons_zero, List.set_cons_succ]
  repeat (first
    | (apply wpO_pure rfl rfl; (focus (intro w'; go_simp; (try rfl); done)); try simp only [Act.put, List.setIfInBounds_toArray, List.set_cons_zero, List.set_cons_succ])
    | (apply wpO_read rfl rfl; (focus (intro w' hf' hs'; (try simp only [World.size_drew, World.cell?_drew, World.size_alloc, World.size_setCell] at hs'); go_simp; (try rfl); done)); try simp only [Act.put, List.setIfInBounds_toArray, List.set_cons_zero, List.set_cons_succ])
    | (apply wpO_skip (by decide) rfl rfl; try simp only [Act.put, List.setIfInBounds_toArray, List.set_cons_zero, List.set_cons_succ]))
  refine wpO_nil ?_
  have hblk := HH2.out.req i b r HHB.out HHR.out
  have e0 := hblk.cell 0
  have el := hblk.lt
  have ez := hblk.frozens
  simp only [List.getElem?_cons_zero, List.getElem?_cons_succ] at e0
  clear hblk
  rw [HK.out] at q2
  have hs1 : (r.state != 2) = true := by simpa using HS.out
  go_wp2
  generalize hW : World.alloc _ _ = W2
  have HLN : Hid (h1.l.length = h.l.length) := Lib.hid (by rw [HH1D.out]; simp [setR])
  have hL2 : HubAt W2 p m (.slice A h.l.length c) bs h1 := by
    subst hW
    rw [HH1D.out]
    exact (HH2.out.stSet HHB.out HHR.out HHI.out rfl).fr0 ((Fr.refl No _).alloc _)
  have hF2 : Fr (fun k => k = b) w W2 := by subst hW; exact fr_cellA HF1.out rfl
  have hbw : b < w.heap.size := H.out.lt b (.inr (.inr (.inl (List.mem_of_getElem? HHB.out))))
  have hX3 : Blk W2 w.heap.size 26 x.vals := by subst hW; exact (HX2.out.far (p := ⟨b, 0, none⟩) (by show ¬ w.heap.size = b; omega) _).alloc _
  have hme : h1.me = h.me ∧ h1.other = h.other := by rw [HH1D.out]; exact ⟨rfl, rfl⟩
  have HRP : Hid (Sl W2 70 2 (some ⟨w1.heap.size, 0, none⟩) 1 [.int .i64 x.n, .int .i64 x.code]) := Lib.hid (by subst hW; have := Sl.of_new (w1.setCell ⟨b, 0, none⟩ (.int .i64 2)) 70 2 1 #[.int .i64 x.n, .int .i64 x.code] [.int .i64 x.n, .int .i64 x.code] rfl rfl; rw [World.size_setCell] at this; exact this)
  clear hW hbw
  have HL2 := Lib.hid hL2
  have HF2 := Lib.hid hF2
  have HX3 := Lib.hid hX3
  have HME := Lib.hid hme
  have hnp : p ≠ w.heap.size := hL2.blk.ne_ hX3 (by decide)
  clear hL2 hF2 hX3 hme
  clear q0 q1 q2 q3 q4 q5 q6 q7 q8 q9 d2 d3 e0 el ez
  obtain ⟨F, hF⟩ : ∃ F, F = advR h1.l h1.frm := ⟨_, rfl⟩
  have HFF := Lib.hid hF
  clear hF
  have hlen : (h.l.length : Int) ≤ 2147483647 := by have := HL2.out.most; have := HLN.out; omega
  go_loopg [] (h1.l.length - h1.frm) (fun g wr => TRel W2 p m (.slice A h.l.length c) bs h1 F g wr)
  case atStart => exact ⟨h1.frm, by have := HL2.out.frm; omega, by first | exact HL2.out | exact HL2.out.fr0 ((Fr.refl No _).drew), HFF.out.symm, by first | exact Fr.refl _ _ | exact (Fr.refl _ _).drew⟩
  case round =>
    obtain ⟨f, hgf, hH, hadv, hFp⟩ := hrel
    have HH3 := Lib.hid hH
    have HAD := Lib.hid hadv
    have HFP := Lib.hid hFp
    have d2 := hH.blk.cell 2
    have d3 := hH.blk.cell 3
    have d4 := hH.blk.cell 4
    have dl := hH.blk.lt
    have dz := hH.blk.frozens
    simp only [List.getElem?_cons_zero, List.getElem?_cons_succ] at d2 d3 d4
    have hf0 : (0 : Int) ≤ (f : Int) := by omega
    have hl0 : (0 : Int) ≤ (h.l.length : Int) := by omega
    clear hadv hFp
    by_cases hlt : f < h1.l.length
    · have hf1 : (f : Int) < (h.l.length : Int) := by have := HLN.out; omega
      obtain ⟨b1, r1, hb1, hr1, hblk1⟩ := hH.at_ (i := f) hlt
      obtain ⟨g1, c1, he1, hc1, hg1, hcell⟩ := hH.row_at hr1
      injection he1 with he1 he2 he3
      subst he1 he3
      have HLK := Lib.hid (fun w' (hf' : Fr No wr.drew w') => ((hH.fr0 ((Fr.refl No wr).drew)).fr0 hf').look hb1 hr1)
      have HR1 := Lib.hid hr1
      have e0 := hblk1.cell 0
      have el := hblk1.lt
      simp only [List.getElem?_cons_zero, List.getElem?_cons_succ] at e0
      clear hH hb1 hr1 hblk1
      by_cases hst : r1.state = 2
      · have HST := Lib.hid hst
        rw [hst] at e0
        clear hst
        go_wp2
        refine wp_region_o [(0, 0), (1, 0), (2, 0), (4, 0), (5, 0), (6, 0), (3, 1), (7, 1), (8, 1), (9, 0), (10, 0), (11, 0), (12, 0), (13, 0), (15, 0), (16, 0), (17, 0), (19, 0), (20, 0), (21, 0), (14, 1), (18, 1), (22, 1), (23, 0), (24, 1), (25, 1), (26, 0), (27, 0), (28, 1), (29, 0), (30, 0)] (by kernel_rfl) (by kernel_rfl) ?_
        repeat (first
          | (apply wpO_pure rfl rfl; (focus (intro w'; go_simp; (try rfl); done)); try simp only [Act.put, List.setIfInBounds_toArray, List.set_cons_zero, List.set_cons_succ])
          | (apply wpO_read rfl rfl; (focus (intro w' hf' hs'; (try simp only [World.size_drew, World.cell?_drew, World.size_alloc, World.size_setCell] at hs'); go_simp; (try rfl); done)); try simp only [Act.put, List.setIfInBounds_toArray, List.set_cons_zero, List.set_cons_succ])
          | (apply wpO_skip (by decide) rfl rfl; try simp only [Act.put, List.setIfInBounds_toArray, List.set_cons_zero, List.set_cons_succ]))
        apply wpO_read rfl rfl
        (focus (intro w' hf' hs'; have hrd := HLK.out w' hf'; go_simp; (try rfl); done))
        try simp only [Act.put, List.setIfInBounds_toArray, List.set_cons_zero, List.set_cons_succ]
        repeat (first
          | (apply wpO_pure rfl rfl; (focus (intro w'; go_simp; (try rfl); done)); try simp only [Act.put, List.setIfInBounds_toArray, List.set_cons_zero, List.set_cons_succ])
          | (apply wpO_read rfl rfl; (focus (intro w' hf' hs'; (try simp only [World.size_drew, World.cell?_drew, World.size_alloc, World.size_setCell] at hs'); go_simp; (try rfl); done)); try simp only [Act.put, List.setIfInBounds_toArray, List.set_cons_zero, List.set_cons_succ])
          | (apply wpO_skip (by decide) rfl rfl; try simp only [Act.put, List.setIfInBounds_toArray, List.set_cons_zero, List.set_cons_succ]))
        refine wpO_nil ?_
        go_wp2
        go_roundg (h1.l.length - (f + 1))
        case measure => omega
        case rel => exact ⟨f + 1, by omega, (by have hq := HH3.out.setFrm (f := f + 1) hlt; rw [show ((f + 1 : Nat) : Int) = (f : Int) + 1 by omega] at hq; exact hq.fr0 ((Fr.refl No _).drew)), by rw [← advR_step HR1.out HST.out]; exact HAD.out, (Fr.trans HFP.out (fr_cell rfl)).drew⟩
      · have HE := Lib.hid ((advR_stop HR1.out hst).symm.trans HAD.out)
        have hst1 : (r1.state == 2) = false := by simpa using hst
        clear hst
        go_wp2
        refine wp_region_o [(0, 0), (1, 0), (2, 0), (4, 0), (5, 0), (6, 0), (3, 1), (7, 1), (8, 1), (9, 0), (10, 0), (11, 0), (12, 0), (13, 0), (15, 0), (16, 0), (17, 0), (19, 0), (20, 0), (21, 0), (14, 1), (18, 1), (22, 1), (23, 0), (24, 1), (25, 1), (26, 0), (27, 0), (28, 1), (29, 0), (30, 0)] (by kernel_rfl) (by kernel_rfl) ?_
        repeat (first
          | (apply wpO_pure rfl rfl; (focus (intro w'; go_simp; (try rfl); done)); try simp only [Act.put, List.setIfInBounds_toArray, List.set_cons_zero, List.set_cons_succ])
          | (apply wpO_read rfl rfl; (focus (intro w' hf' hs'; (try simp only [World.size_drew, World.cell?_drew, World.size_alloc, World.size_setCell] at hs'); go_simp; (try rfl); done)); try simp only [Act.put, List.setIfInBounds_toArray, List.set_cons_zero, List.set_cons_succ])
          | (apply wpO_skip (by decide) rfl rfl; try simp only [Act.put, List.setIfInBounds_toArray, List.set_cons_zero, List.set_cons_succ]))
        apply wpO_read rfl rfl
        (focus (intro w' hf' hs'; have hrd := HLK.out w' hf'; go_simp; (try rfl); done))
        try simp only [Act.put, List.setIfInBounds_toArray, List.set_cons_zero, List.set_cons_succ]
        repeat (first
          | (apply wpO_pure rfl rfl; (focus (intro w'; go_simp; (try rfl); done)); try simp only [Act.put, List.setIfInBounds_toArray, List.set_cons_zero, List.set_cons_succ])
          | (apply wpO_read rfl rfl; (focus (intro w' hf' hs'; (try simp only [World.size_drew, World.cell?_drew, World.size_alloc, World.size_setCell] at hs'); go_simp; (try rfl); done)); try simp only [Act.put, List.setIfInBounds_toArray, List.set_cons_zero, List.set_cons_succ])
          | (apply wpO_skip (by decide) rfl rfl; try simp only [Act.put, List.setIfInBounds_toArray, List.set_cons_zero, List.set_cons_succ]))
        refine wpO_nil ?_
        have hX4 := HX3.out.fr HFP.out (fun e => hnp (Eq.symm e))
        have n3 := hX4.cell 3
        have nl := hX4.lt
        have d0 := HH3.out.blk.cell 0
        have d1 := HH3.out.blk.cell 1
        simp only [List.getElem?_cons_zero, List.getElem?_cons_succ] at n3 d0 d1
        rw [HME.out.1] at d0
        rw [HME.out.2] at d1
        clear hX4
        go_wp2
        refine wp_region_o [(0, 0), (1, 0), (2, 0), (4, 0), (8, 0), (3, 1), (5, 1), (6, 2), (7, 2), (9, 0), (10, 0), (11, 0)] (by kernel_rfl) (by kernel_rfl) ?_
        repeat (first
          | (apply wpO_pure rfl rfl; (focus (intro w'; go_simp; (try rfl); done)); try simp only [Act.put, List.setIfInBounds_toArray, List.set_cons_zero, List.set_cons_succ])
          | (apply wpO_read rfl rfl; (focus (intro w' hf' hs'; (try simp only [World.size_drew, World.cell?_drew, World.size_alloc, World.size_setCell] at hs'); go_simp; (try rfl); done)); try simp only [Act.put, List.setIfInBounds_toArray, List.set_cons_zero, List.set_cons_succ])
          | (apply wpO_skip (by decide) rfl rfl; try simp only [Act.put, List.setIfInBounds_toArray, List.set_cons_zero, List.set_cons_succ]))
        refine wpO_loudE rfl fun K hK => ?_
        go_simp
        refine (say_any _ _ _ _ _ _).mono ?_
        rintro e w5 ⟨rfl, hf5⟩
        refine hK _ _ ⟨hf5, ?_⟩
        clear hK K
        refine wpO_loudE rfl fun K hK => ?_
        go_simp
        refine hK _ _ ⟨by (repeat (first | exact Fr.refl _ _ | assumption | refine Fr.drew ?_ | refine Fr.drewL ?_ | refine Fr.alloc ?_ _)), ?_⟩
        clear hK K
        repeat (first
          | (apply wpO_pure rfl rfl; (focus (intro w'; go_simp; (try rfl); done)); try simp only [Act.put, List.setIfInBounds_toArray, List.set_cons_zero, List.set_cons_succ])
          | (apply wpO_read rfl rfl; (focus (intro w' hf' hs'; (try simp only [World.size_drew, World.cell?_drew, World.size_alloc, World.size_setCell] at hs'); go_simp; (try rfl); done)); try simp only [Act.put, List.setIfInBounds_toArray, List.set_cons_zero, List.set_cons_succ])
          | (apply wpO_skip (by decide) rfl rfl; try simp only [Act.put, List.setIfInBounds_toArray, List.set_cons_zero, List.set_cons_succ]))
        refine wpO_nil ?_
        go_wp2
        have hw7 : Fr No wr (w5.alloc (Obj.cells (sayM h.me h.other 4 x.n 0).vals.toArray 26)) := Fr.alloc (Fr.trans (by (repeat (first | exact Fr.refl _ _ | assumption | refine Fr.drew ?_ | refine Fr.drewL ?_ | refine Fr.alloc ?_ _))) hf5) _
        exact bodyPost_ret (htake_res rfl rfl rfl) rfl ⟨⟨some ⟨w5.heap.size, 0, none⟩, 1, _, _, rfl, Sl.of_new w5 26 8 1 _ _ rfl rfl, ((HRP.out.not_blk HL2.out.blk (by decide) HFP.out).fr0 hw7)⟩, by rw [HT.out, ← HFF.out, ← HE.out]; exact HH3.out.fr0 hw7,
          ((HF2.out.mono fun k _ e => .inr (.inr (.inl (by have e : k = b := e; rw [e]; exact List.mem_of_getElem? HHB.out)))).step HFP.out fun i e => .inl (.inl e)).trans (hw7.any _)⟩
    · have HE := Lib.hid ((advR_end (l := h1.l) (f := f) (by have := HH3.out.frm; simp only at this; omega)).symm.trans HAD.out)
      have hlt1 : (h.l.length : Int) ≤ (f : Int) := by have := HLN.out; omega
      have hlt2 : decide ((f : Int) < (h.l.length : Int)) = false := by simpa using hlt1
      have hlt3 : ¬ f < h.l.length := by omega
      have hlt4 : h.l.length ≤ f := by omega
      clear hlt
      go_wp2
      refine wp_region_o [(0, 0), (1, 0), (2, 0), (4, 0), (5, 0), (6, 0), (3, 1), (7, 1), (8, 1), (9, 0), (10, 0), (11, 0), (12, 0), (13, 0), (15, 0), (16, 0), (17, 0), (19, 0), (20, 0), (21, 0), (14, 1), (18, 1), (22, 1), (23, 0), (24, 1), (25, 1), (26, 0), (27, 0), (28, 1), (29, 0), (30, 0)] (by kernel_rfl) (by kernel_rfl) ?_
      repeat (first
        | (apply wpO_pure rfl rfl; (focus (intro w'; go_simp; (try rfl); done)); try simp only [Act.put, List.setIfInBounds_toArray, List.set_cons_zero, List.set_cons_succ])
        | (apply wpO_read rfl rfl; (focus (intro w' hf' hs'; (try simp only [World.size_drew, World.cell?_drew, World.size_alloc, World.size_setCell] at hs'); go_simp; (try rfl); done)); try simp only [Act.put, List.setIfInBounds_toArray, List.set_cons_zero, List.set_cons_succ])
        | (apply wpO_skip (by decide) rfl rfl; try simp only [Act.put, List.setIfInBounds_toArray, List.set_cons_zero, List.set_cons_succ]))
      refine wpO_nil ?_
      have hX4 := HX3.out.fr HFP.out (fun e => hnp (Eq.symm e))
      have n3 := hX4.cell 3
      have nl := hX4.lt
      have d0 := HH3.out.blk.cell 0
      have d1 := HH3.out.blk.cell 1
      simp only [List.getElem?_cons_zero, List.getElem?_cons_succ] at n3 d0 d1
      rw [HME.out.1] at d0
      rw [HME.out.2] at d1
      clear hX4
      go_wp2
      refine wp_region_o [(0, 0), (1, 0), (2, 0), (4, 0), (8, 0), (3, 1), (5, 1), (6, 2), (7, 2), (9, 0), (10, 0), (11, 0)] (by kernel_rfl) (by kernel_rfl) ?_
      repeat (first
        | (apply wpO_pure rfl rfl; (focus (intro w'; go_simp; (try rfl); done)); try simp only [Act.put, List.setIfInBounds_toArray, List.set_cons_zero, List.set_cons_succ])
        | (apply wpO_read rfl rfl; (focus (intro w' hf' hs'; (try simp only [World.size_drew, World.cell?_drew, World.size_alloc, World.size_setCell] at hs'); go_simp; (try rfl); done)); try simp only [Act.put, List.setIfInBounds_toArray, List.set_cons_zero, List.set_cons_succ])
        | (apply wpO_skip (by decide) rfl rfl; try simp only [Act.put, List.setIfInBounds_toArray, List.set_cons_zero, List.set_cons_succ]))
      refine wpO_loudE rfl fun K hK => ?_
      go_simp
      refine (say_any _ _ _ _ _ _).mono ?_
      rintro e w5 ⟨rfl, hf5⟩
      refine hK _ _ ⟨hf5, ?_⟩
      clear hK K
      refine wpO_loudE rfl fun K hK => ?_
      go_simp
      refine hK _ _ ⟨by (repeat (first | exact Fr.refl _ _ | assumption | refine Fr.drew ?_ | refine Fr.drewL ?_ | refine Fr.alloc ?_ _)), ?_⟩
      clear hK K
      repeat (first
        | (apply wpO_pure rfl rfl; (focus (intro w'; go_simp; (try rfl); done)); try simp only [Act.put, List.setIfInBounds_toArray, List.set_cons_zero, List.set_cons_succ])
        | (apply wpO_read rfl rfl; (focus (intro w' hf' hs'; (try simp only [World.size_drew, World.cell?_drew, World.size_alloc, World.size_setCell] at hs'); go_simp; (try rfl); done)); try simp only [Act.put, List.setIfInBounds_toArray, List.set_cons_zero, List.set_cons_succ])
        | (apply wpO_skip (by decide) rfl rfl; try simp only [Act.put, List.setIfInBounds_toArray, List.set_cons_zero, List.set_cons_succ]))
      refine wpO_nil ?_
      go_wp2
      have hw7 : Fr No wr (w5.alloc (Obj.cells (sayM h.me h.other 4 x.n 0).vals.toArray 26)) := Fr.alloc (Fr.trans (by (repeat (first | exact Fr.refl _ _ | assumption | refine Fr.drew ?_ | refine Fr.drewL ?_ | refine Fr.alloc ?_ _))) hf5) _
      exact bodyPost_ret (htake_res rfl rfl rfl) rfl ⟨⟨some ⟨w5.heap.size, 0, none⟩, 1, _, _, rfl, Sl.of_new w5 26 8 1 _ _ rfl rfl, ((HRP.out.not_blk HL2.out.blk (by decide) HFP.out).fr0 hw7)⟩, by rw [HT.out, ← HFF.out, ← HE.out]; exact HH3.out.fr0 hw7,
        ((HF2.out.mono fun k _ e => .inr (.inr (.inl (by have e : k = b := e; rw [e]; exact List.mem_of_getElem? HHB.out)))).step HFP.out fun i e => .inl (.inl e)).trans (hw7.any _)⟩
end Go.Proofs.Ytohnchkoldbpcaa

/- agent: a hub's Take, all cases in one. -/
namespace Go.Proofs.Ytohnchkoldbpcaa
open Go Go.RowKit Go.Proofs

theorem heard_kind {me other : Int} {x : Msg} (h : heardB me other [2, 3] x = true) : x.kind = 2 ∨ x.kind = 3 := by
  unfold heardB at h
  simp only [Bool.and_eq_true, List.contains_eq_mem, decide_eq_true_eq, List.mem_cons, List.not_mem_nil, or_false] at h
  exact h.2
theorem htake_any (p m : Nat) (u : Value) (bs : List Nat) (h : HubS) (x : Msg) (w : World) (H : HubAt w p m u bs h) :
    Calls Try.prog 7 #[.pointer (some ⟨p, 0, none⟩), x.val] w fun e w' => TakeOut w' e (h.take x).2.1 (h.take x).2.2.1 (h.take x).2.2.2 ∧ HubAt w' p m u bs (h.take x).1 ∧ Fr (HubF p m u bs) w w' := by
  cases hh : heardB h.me h.other [2, 3] x with
  | false =>
    have e : h.take x = (h, [], [], 1) := by unfold HubS.take; rw [hh]; rfl
    rw [e]
    exact (take_not p m u bs h x w H hh).mono fun e w' ⟨h1, h2⟩ => ⟨h1, H.fr0 h2, h2.any _⟩
  | true =>
    cases hf : findR x.n h.l with
    | none =>
      have e : h.take x = (h, [], [], 30) := by unfold HubS.take; rw [hh, hf]; rfl
      rw [e]
      exact (take_none p m u bs h x w H hh hf).mono fun e w' ⟨h1, h2⟩ => ⟨h1, H.fr0 h2, h2.any _⟩
    | some r =>
      obtain ⟨hi, i, hr⟩ := findR_at hf
      obtain ⟨b, r', hb, hr', _⟩ := H.at_ (List.getElem?_eq_some_iff.1 hr).1
      rcases heard_kind hh with hk | hk
      · have e : h.take x = ({ h with l := setR x.n (max r.state 1) h.l }, [], [], 0) := by unfold HubS.take; rw [hh, hf]; simp [hk]
        rw [e]
        exact (take_under p m u bs h x w H hh hb hr hi hk).mono fun e w' ⟨h1, h2, h3⟩ => ⟨h1, h2, h3.mono fun k _ e => .inr (.inr (.inl (by have e : k = b := e; rw [e]; exact List.mem_of_getElem? hb)))⟩
      · have e : h.take x = ({ h with l := setR x.n 2 h.l, frm := advR (setR x.n 2 h.l) h.frm }, [sayM h.me h.other 4 x.n 0], (if r.state = 2 then [] else [(x.n, x.code)]), 0) := by unfold HubS.take; rw [hh, hf]; simp [hk]
        rw [e]
        by_cases hs : r.state = 2
        · exact take_done2 p m u bs h x w H hh hb hr hi hk hs
        · exact take_done1 p m u bs h x w H hh hb hr hi hk hs
end Go.Proofs.Ytohnchkoldbpcaa

/- agent: NewHub. -/
namespace Go.Proofs.Ytohnchkoldbpcaa
open Go Go.RowKit Go.Proofs

theorem newHub_res {tmps : Array Value} {w : World} {v : Value} {e : Int} (h4 : tmps.getD 4 undef = v) (h5 : tmps.getD 5 undef = .int .i64 e) :
    (results Try.f31 tmps).run Try.prog w = .ok (.tuple #[v, .int .i64 e]) w := by
  simp only [Array.getD_eq_getD_getElem?] at h4 h5
  simp [results, Try.results31, go_sem, h4, h5]
theorem newHub_01 (w : World) : Calls Try.prog 31 #[.int .i64 0, .int .i64 1] w fun e w' => ∃ q m, e = .returned (.tuple #[.pointer (some ⟨q, 0, none⟩), .int .i64 0]) ∧ HubAt w' q m (.slice none 0 0) [] ⟨0, 1, [], 0⟩ ∧ w.heap.size ≤ q ∧ w.heap.size ≤ m ∧ Fr No w w' := by
  have HE := Lib.hid (Blk.new w 59 [.int .i64 0, .int .i64 1])
  have hmm := @run_makeMap Try.prog
  go_enter Try.func31, Try.ntmps31
  go_wp2_with (go_at_call 46; refine (right_01 _).mono ?_; rintro e w1 ⟨rfl, hf1⟩
               have HE1 := Lib.hid (HE.out.fr hf1 (fun h => h))
               have e0 := HE1.out.cell 0
               have e1 := HE1.out.cell 1
               have el := HE1.out.lt
               simp only [List.getElem?_cons_zero, List.getElem?_cons_succ] at e0 e1)
  have hF : Fr No w w1 := ((Fr.refl No w).alloc _).trans hf1
  have hsz := hF.size
  refine bodyPost_ret (newHub_res rfl rfl) rfl ⟨w1.heap.size + 1, w1.heap.size, rfl, ⟨?_, World.ownsRow_nil _ _ _ _, (MapAt.new w1 encI).alloc _, rfl, fun i b r hb => by simp at hb, by simp, Nat.le_refl _, by simp⟩, by omega, hsz, (hF.alloc _).alloc _⟩
  have := Blk.new (w1.alloc (.map #[] 0)) 62 [.int .i64 0, .int .i64 1, .map (some w1.heap.size), .slice none 0 0, .int .i64 0]
  simpa using this
end Go.Proofs.Ytohnchkoldbpcaa

/- agent: what an agent is in memory; NewAgent. -/
namespace Go.Proofs.Ytohnchkoldbpcaa
open Go Go.RowKit Go.Proofs

abbrev ptrV (bs : List Nat) : List Value := bs.map fun b => .pointer (some ⟨b, 0, none⟩)
structure AgAt (w : World) (q : Nat) (u : Value) (bs : List Nat) (a : AgS) : Prop where
  blk : Blk w q 74 [.int .i64 a.me, .int .i64 a.other, u, .int .i64 a.low, .int .i64 a.begun]
  row : w.ownsRow 0 81 1 u a.l.length (ptrV bs)
  len : bs.length = a.l.length
  work : ∀ (i b : Nat) (x : WorkS), bs[i]? = some b → a.l[i]? = some x → Blk w b 80 x.vals
  nodup : bs.Nodup
  most : a.l.length ≤ 2147483647
/-- what an agent owns -/
def AgF (q : Nat) (u : Value) (bs : List Nat) (k : Nat) : Prop := k = q ∨ k ∈ bs ∨ u.ownBlock = some k
section
variable {w w' : World} {q : Nat} {u : Value} {bs : List Nat} {a : AgS}
theorem AgAt.fr {S : Nat → Prop} (H : AgAt w q u bs a) (hf : Fr S w w') (hS : ∀ k, AgF q u bs k → ¬ S k) : AgAt w' q u bs a :=
  ⟨H.blk.fr hf (hS q (.inl rfl)), own_fr H.row hf (fun k hk => hS k (.inr (.inr hk))), H.len,
   fun i b x hb hx => (H.work i b x hb hx).fr hf (hS b (.inr (.inl (List.mem_of_getElem? hb)))), H.nodup, H.most⟩
theorem AgAt.fr0 (H : AgAt w q u bs a) (hf : Fr No w w') : AgAt w' q u bs a := H.fr hf fun _ _ h => h
theorem AgAt.lt (H : AgAt w q u bs a) : ∀ k, AgF q u bs k → k < w.heap.size := by
  rintro k (rfl | hb | hu)
  · exact H.blk.lt
  · obtain ⟨i, hi, hib⟩ := List.getElem_of_mem hb
    have hx : a.l[i]? = some (a.l[i]'(by have := H.len; omega)) := List.getElem?_eq_getElem _
    exact (H.work i k _ (by rw [List.getElem?_eq_getElem hi, hib]) hx).lt
  · exact (own_size H.row k hu).2
end
theorem newAgent_res {tmps : Array Value} {w : World} {v : Value} {e : Int} (h4 : tmps.getD 4 undef = v) (h5 : tmps.getD 5 undef = .int .i64 e) :
    (results Try.f32 tmps).run Try.prog w = .ok (.tuple #[v, .int .i64 e]) w := by
  simp only [Array.getD_eq_getD_getElem?] at h4 h5
  simp [results, Try.results32, go_sem, h4, h5]
theorem newAgent_10 (w : World) : Calls Try.prog 32 #[.int .i64 1, .int .i64 0] w fun e w' => ∃ q, e = .returned (.tuple #[.pointer (some ⟨q, 0, none⟩), .int .i64 0]) ∧ AgAt w' q (.slice none 0 0) [] ⟨1, 0, [], 1, 0⟩ ∧ w.heap.size ≤ q ∧ Fr No w w' := by
  have HE := Lib.hid (Blk.new w 59 [.int .i64 1, .int .i64 0])
  go_enter Try.func32, Try.ntmps32
  go_wp2_with (go_at_call 46; refine (right_10 _).mono ?_; rintro e w1 ⟨rfl, hf1⟩
               have HE1 := Lib.hid (HE.out.fr hf1 (fun h => h))
               have e0 := HE1.out.cell 0
               have e1 := HE1.out.cell 1
               have el := HE1.out.lt
               simp only [List.getElem?_cons_zero, List.getElem?_cons_succ] at e0 e1)
  have hF : Fr No w w1 := ((Fr.refl No w).alloc _).trans hf1
  have hsz := hF.size
  refine bodyPost_ret (newAgent_res rfl rfl) rfl ⟨w1.heap.size, rfl, ⟨?_, World.ownsRow_nil _ _ _ _, rfl, fun i b r hb => by simp at hb, by simp, by simp⟩, hsz, hF.alloc _⟩
  exact Blk.new w1 74 [.int .i64 1, .int .i64 0, .slice none 0 0, .int .i64 1, .int .i64 0]
end Go.Proofs.Ytohnchkoldbpcaa

/- agent: one cell of one work is another one; Begun. -/
namespace Go.Proofs.Ytohnchkoldbpcaa
open Go Go.RowKit Go.Proofs

section
variable {w w' : World} {q : Nat} {u : Value} {bs : List Nat} {a : AgS}
theorem AgAt.b_blk (H : AgAt w q u bs a) {b : Nat} (hb : b ∈ bs) : ∃ x : WorkS, x ∈ a.l ∧ Blk w b 80 x.vals := by
  obtain ⟨i, hi, hib⟩ := List.getElem_of_mem hb
  have hx : a.l[i]? = some (a.l[i]'(by have := H.len; omega)) := List.getElem?_eq_getElem _
  exact ⟨_, List.mem_of_getElem? hx, H.work i b _ (by rw [List.getElem?_eq_getElem hi, hib]) hx⟩
theorem AgAt.b_ne_q (H : AgAt w q u bs a) {b : Nat} (hb : b ∈ bs) : b ≠ q := by
  obtain ⟨x, _, hx⟩ := H.b_blk hb
  exact fun e => H.blk.ne_ hx (by decide) e.symm
theorem AgAt.b_ne_row (H : AgAt w q u bs a) {b : Nat} (hb : b ∈ bs) : u.ownBlock ≠ some b := by
  obtain ⟨x, _, hx⟩ := H.b_blk hb
  exact fun e => row_ne_blk H.row hx (by decide) e rfl
theorem AgAt.setWork (H : AgAt w q u bs a) {i b k : Nat} {x x' : WorkS} {v : Value} (hb : bs[i]? = some b) (hx : a.l[i]? = some x) (hv : x'.vals = x.vals.set k v) :
    AgAt (w.setCell ⟨b, k, none⟩ v) q u bs { a with l := a.l.set i x' } := by
  have hm := List.mem_of_getElem? hb
  have F : Fr (fun j => j = b) w (w.setCell ⟨b, k, none⟩ v) := fr_cell rfl
  refine ⟨H.blk.fr F (fun e => H.b_ne_q hm e.symm), ?_, ?_, ?_, H.nodup, ?_⟩
  · show (w.setCell ⟨b, k, none⟩ v).ownsRow 0 81 1 u (a.l.set i x').length (ptrV bs)
    rw [List.length_set]
    exact own_fr H.row F fun j hj e => H.b_ne_row hm (by rw [hj, e])
  · show bs.length = (a.l.set i x').length
    rw [List.length_set]
    exact H.len
  · intro j b' y hb' hy
    replace hy : (a.l.set i x')[j]? = some y := hy
    by_cases hij : i = j
    · subst hij
      rw [hb] at hb'
      injection hb' with hb'
      subst hb'
      have hl := (List.getElem?_eq_some_iff.1 hx).1
      rw [List.getElem?_set_self hl] at hy
      injection hy with hy
      subst hy
      rw [hv]
      exact (H.work i b x hb hx).set_ k v
    · rw [List.getElem?_set_ne hij] at hy
      refine (H.work j b' y hb' hy).fr F fun e => ?_
      subst e
      exact hij (nodup_inj H.nodup hb hb')
  · show (a.l.set i x').length ≤ _
    rw [List.length_set]
    exact H.most
end
theorem begun_any (q : Nat) (u : Value) (bs : List Nat) (a : AgS) (w : World) (H : AgAt w q u bs a) :
    Calls Try.prog 15 #[.pointer (some ⟨q, 0, none⟩)] w fun e w' => e = .returned (.int .i64 (a.begun : Int)) ∧ Fr No w w' := by
  have c4 := H.blk.cell 4
  have cl := H.blk.lt
  simp only [List.getElem?_cons_zero, List.getElem?_cons_succ] at c4
  clear H
  go_enter Try.func15, Try.ntmps15
  go_wp2
  go_ret
  exact ⟨rfl, by (repeat (first | exact Fr.refl _ _ | assumption | refine Fr.drew ?_ | refine Fr.drewL ?_ | refine Fr.alloc ?_ _))⟩
end Go.Proofs.Ytohnchkoldbpcaa

/- agent: tell. -/
namespace Go.Proofs.Ytohnchkoldbpcaa
open Go Go.RowKit Go.Proofs

theorem tell_res {tmps : Array Value} {w : World} {g : Nat} {x : Msg} (h : Blk w g 26 x.vals) (h8 : tmps.getD 6 undef = .pointer (some ⟨g, 0, none⟩)) :
    (results Try.f30 tmps).run Try.prog w = .ok x.val w := by
  obtain ⟨r0, r1, r2, r3, r4, r5, r6, r7⟩ := h.cells8
  simp only [Array.getD_eq_getD_getElem?] at h8
  simp [results, Try.results30, go_sem, h8, r0, r1, r2, r3, r4, r5, r6, r7]
set_option maxRecDepth 100000 in
set_option maxHeartbeats 1000000 in
theorem tell_any (q : Nat) (u : Value) (bs : List Nat) (a : AgS) (w : World) (H : AgAt w q u bs a) {i b : Nat} {x : WorkS} (hb : bs[i]? = some b) (hx : a.l[i]? = some x) (clock : Int) :
    Calls Try.prog 30 #[.pointer (some ⟨q, 0, none⟩), .pointer (some ⟨b, 0, none⟩), .int .i64 clock] w fun e w' => e = .returned (sayM a.me a.other 3 x.run x.code).val ∧ AgAt w' q u bs { a with l := a.l.set i { x with over := true, sent := clock } } ∧ Fr (fun k => k = b) w w' := by
  have hbl := (H.work i b x hb hx)
  have HLT := Lib.hid hbl.lt
  have hs2 := (H.setWork (k := 1) (v := .bool true) (x' := { x with over := true }) hb hx rfl).setWork (k := 5) (v := .int .i64 clock) (x := { x with over := true }) (x' := { x with over := true, sent := clock }) hb (by simp [(List.getElem?_eq_some_iff.1 hx).1]) rfl
  simp only [List.set_set] at hs2
  have HS := Lib.hid hs2
  have HB0 := Blk.new ((w.setCell ⟨b, 1, none⟩ (.bool true)).setCell ⟨b, 5, none⟩ (.int .i64 clock)) 26 zeroMsg.vals
  simp only [World.size_setCell] at HB0
  have HB0 := Lib.hid HB0
  have HFB : Hid (Fr (fun k => k = b) w ((w.setCell ⟨b, 1, none⟩ (.bool true)).setCell ⟨b, 5, none⟩ (.int .i64 clock))) := Lib.hid (Fr.trans (fr_cell rfl) (fr_cell rfl))
  have d0 := H.blk.cell 0
  have d1 := H.blk.cell 1
  have dl := H.blk.lt
  have e0 := hbl.cell 0
  have e1 := hbl.cell 1
  have e4 := hbl.cell 4
  have e5 := hbl.cell 5
  have el := hbl.lt
  have ez := hbl.frozens
  have nb : ¬ b = q := H.b_ne_q (List.mem_of_getElem? hb)
  have nb' : ¬ q = b := fun e => nb e.symm
  simp only [List.getElem?_cons_zero, List.getElem?_cons_succ] at d0 d1 e0 e1 e4 e5
  clear H hbl hb hx hs2
  go_enter Try.func30, Try.ntmps30
  go_wp2
  refine wp_region_o [(0, 0), (1, 0), (2, 0), (4, 0), (5, 0), (6, 0), (7, 0), (9, 0), (10, 0), (11, 0), (12, 0), (3, 1), (8, 1), (13, 1), (14, 2), (15, 3)] (by kernel_rfl) (by kernel_rfl) ?_
  repeat (first
    | (apply wpO_pure rfl rfl; (focus (intro w'; go_simp; (try rfl); done)); try simp only [Act.put, List.setIfInBounds_toArray, List.set_cons_zero, List.set_cons_succ])
    | (apply wpO_read rfl rfl; (focus (intro w' hf' hs'; (try simp only [World.size_drew, World.cell?_drew, World.size_alloc, World.size_setCell] at hs'); go_simp; (try rfl); done)); try simp only [Act.put, List.setIfInBounds_toArray, List.set_cons_zero, List.set_cons_succ])
    | (apply wpO_skip (by decide) rfl rfl; try simp only [Act.put, List.setIfInBounds_toArray, List.set_cons_zero, List.set_cons_succ]))
  refine wpO_loudE rfl fun K hK => ?_
  go_simp
  refine (say_any _ _ _ _ _ _).mono ?_
  rintro e w1 ⟨rfl, hf1⟩
  refine hK _ _ ⟨hf1, ?_⟩
  clear hK K
  have hF2 : Fr No ((w.setCell ⟨b, 1, none⟩ (.bool true)).setCell ⟨b, 5, none⟩ (.int .i64 clock)) w1 := ((Fr.refl No _).alloc _).drew.trans hf1
  have HB1 := Lib.hid (HB0.out.drew.fr hf1 (fun h => h))
  obtain ⟨s0, s1, s2, s3, s4, s5, s6, s7⟩ := HB1.out.cells8
  have s8 := HB1.out.lt
  have s9 := HB1.out.frozens
  refine wpO_loud rfl fun K hK => ?_
  go_simp
  refine hK _ _ ?_
  clear hK K
  repeat (first
    | (apply wpO_pure rfl rfl; (focus (intro w'; go_simp; (try rfl); done)); try simp only [Act.put, List.setIfInBounds_toArray, List.set_cons_zero, List.set_cons_succ])
    | (apply wpO_read rfl rfl; (focus (intro w' hf' hs'; (try simp only [World.size_drew, World.cell?_drew, World.size_alloc, World.size_setCell] at hs'); go_simp; (try rfl); done)); try simp only [Act.put, List.setIfInBounds_toArray, List.set_cons_zero, List.set_cons_succ])
    | (apply wpO_skip (by decide) rfl rfl; try simp only [Act.put, List.setIfInBounds_toArray, List.set_cons_zero, List.set_cons_succ]))
  refine wpO_nil ?_
  go_wp2
  have hF8 : Fr (fun k => k = w.heap.size) w1 (set8 w1 w.heap.size (sayM a.me a.other 3 x.run x.code)) := Fr.set8 (S := fun k => k = w.heap.size) (Fr.refl _ w1) (.inl rfl) _
  exact bodyPost_ret (v := (sayM a.me a.other 3 x.run x.code).val) (tell_res (x := sayM a.me a.other 3 x.run x.code) (HB1.out.set8 _) rfl) rfl
    ⟨rfl, (HS.out.fr0 hF2).fr hF8 (fun k hk e => by have e : k = w.heap.size := e; have := HS.out.lt k hk; simp only [World.size_setCell] at this; omega), (HFB.out.trans (hF2.any _)).set8 (.inr (Nat.le_refl _)) _⟩
end Go.Proofs.Ytohnchkoldbpcaa

/- agent: find's comparison. -/
namespace Go.Proofs.Ytohnchkoldbpcaa
open Go Go.RowKit Go.Proofs

def cmpI (x y : Int) : Int := if x < y then -1 else if y < x then 1 else 0
theorem nan_any (x : Int) (w : World) : Calls Try.prog 58 #[.int .i64 x] w fun e w' => e = .returned (.bool false) ∧ Fr No w w' := by
  have k2 : (x != x) = false := by simp
  have k3 : (x == x) = true := by simp
  go_enter Try.func58, Try.ntmps58
  go_wp2
  go_ret
  exact ⟨rfl, by (repeat (first | exact Fr.refl _ _ | assumption | refine Fr.drew ?_ | refine Fr.drewL ?_ | refine Fr.alloc ?_ _))⟩
theorem cmp_any (x y : Int) (w : World) : Calls Try.prog 45 #[.int .i64 x, .int .i64 y] w fun e w' => e = .returned (.int .i64 (cmpI x y)) ∧ Fr No w w' := by
  by_cases h1 : x < y
  · have e : cmpI x y = -1 := by simp [cmpI, h1]
    rw [e]
    clear e
    have k1 : decide (x < y) = true := by simpa using h1
    go_enter Try.func45, Try.ntmps45
    go_wp2_with (go_at_call 58; refine (nan_any _ _).mono ?_; rintro e w1 ⟨rfl, hf1⟩)
    go_ret
    exact ⟨rfl, Fr.trans (by assumption) (by assumption)⟩
  · have k1 : decide (x < y) = false := by simpa using h1
    by_cases h2 : y < x
    · have e : cmpI x y = 1 := by simp [cmpI, h1, h2]
      rw [e]
      clear e
      have k2 : decide (y < x) = true := by simpa using h2
      go_enter Try.func45, Try.ntmps45
      go_wp2_with (go_at_call 58; refine (nan_any _ _).mono ?_; rintro e w1 ⟨rfl, hf1⟩)
      go_ret
      exact ⟨rfl, Fr.trans (by assumption) (by assumption)⟩
    · have e : cmpI x y = 0 := by simp [cmpI, h1, h2]
      rw [e]
      clear e
      have k2 : decide (y < x) = false := by simpa using h2
      go_enter Try.func45, Try.ntmps45
      go_wp2_with (go_at_call 58; refine (nan_any _ _).mono ?_; rintro e w1 ⟨rfl, hf1⟩)
      go_ret
      exact ⟨rfl, Fr.trans (by assumption) (by assumption)⟩
theorem find1_any (b : Nat) (x : WorkS) (run : Int) (w : World) (hb : Blk w b 80 x.vals) : Calls Try.prog 44 #[.pointer (some ⟨b, 0, none⟩), .int .i64 run] w fun e w' => e = .returned (.int .i64 (cmpI x.run run)) ∧ Fr No w w' := by
  have e0 := hb.cell 0
  have el := hb.lt
  simp only [List.getElem?_cons_zero, List.getElem?_cons_succ] at e0
  clear hb
  go_enter Try.func44, Try.ntmps44
  go_wp2_with (go_at_call 45; refine (cmp_any _ _ _).mono ?_; rintro e w1 ⟨rfl, hf1⟩)
  go_ret
  exact ⟨rfl, by assumption⟩
end Go.Proofs.Ytohnchkoldbpcaa

/- agent: where a run stands, as a binary search finds it. -/
namespace Go.Proofs.Ytohnchkoldbpcaa
open Go Go.RowKit Go.Proofs

theorem posA_eq {run : Int} : ∀ {l : List WorkS} {i : Nat}, i ≤ l.length → (∀ (k : Nat) (x : WorkS), k < i → l[k]? = some x → x.run < run) → (∀ (x : WorkS), l[i]? = some x → run ≤ x.run) → posA run l = i
  | [], i, hi, _, _ => by
    simp only [List.length_nil, Nat.le_zero_eq] at hi
    subst hi
    rfl
  | y :: l, 0, _, _, h2 => by
    have := h2 y rfl
    unfold posA
    rw [List.takeWhile_cons_of_neg (by simp; omega)]
    rfl
  | y :: l, i + 1, hi, h1, h2 => by
    have h0 := h1 0 y (by omega) rfl
    have := posA_eq (run := run) (l := l) (i := i) (by simpa using hi) (fun k x hk hx => h1 (k + 1) x (by omega) (by simpa using hx)) (fun x hx => h2 x (by simpa using hx))
    unfold posA at this ⊢
    rw [List.takeWhile_cons_of_pos (by simpa using h0), List.length_cons, this]
end Go.Proofs.Ytohnchkoldbpcaa

/- agent: the binary search. -/
namespace Go.Proofs.Ytohnchkoldbpcaa
open Go Go.RowKit Go.Proofs

def BSRel (w : World) (l : List WorkS) (run : Int) (g : Nat) (v9 v10 : Value) (wr : World) : Prop :=
  ∃ i j : Nat, j = i + g ∧ j ≤ l.length ∧ v9 = .int .i64 i ∧ v10 = .int .i64 j ∧ (∀ (k : Nat) (x : WorkS), k < i → l[k]? = some x → x.run < run) ∧ (∀ (k : Nat) (x : WorkS), j ≤ k → l[k]? = some x → run ≤ x.run) ∧ Fr No w wr
theorem sorted_le {l : List WorkS} (h : SortedA l) {k m : Nat} {x y : WorkS} (hk : k ≤ m) (hy : l[k]? = some y) (hx : l[m]? = some x) : y.run ≤ x.run := by
  rcases Nat.lt_or_eq_of_le hk with hlt | rfl
  · have h1 := List.getElem?_eq_some_iff.1 hy
    have h2 := List.getElem?_eq_some_iff.1 hx
    have := List.pairwise_iff_getElem.1 h k m h1.1 h2.1 hlt
    rw [h1.2, h2.2] at this
    omega
  · rw [hy] at hx
    injection hx with hx
    rw [hx]
    exact Int.le_refl _
theorem bs_res {tmps : Array Value} {w : World} {v : Value} {e : Bool} (h4 : tmps.getD 6 undef = v) (h5 : tmps.getD 7 undef = .bool e) :
    (results Try.f43 tmps).run Try.prog w = .ok (.tuple #[v, .bool e]) w := by
  simp only [Array.getD_eq_getD_getElem?] at h4 h5
  simp [results, Try.results43, go_sem, h4, h5]
set_option maxRecDepth 100000 in
set_option maxHeartbeats 1000000 in
theorem bs_any (q : Nat) (A : Option Addr) (c : Nat) (bs : List Nat) (a : AgS) (run : Int) (w : World) (H : AgAt w q (.slice A a.l.length c) bs a) (hs : SortedA a.l) :
    Calls Try.prog 43 #[.slice A a.l.length c, .int .i64 run, .func (.func 44) #[] #[]] w fun e w' => e = .returned (.tuple #[.int .i64 (posA run a.l : Int), .bool (atA run a.l).isSome]) ∧ Fr No w w' := by
  have HH := Lib.hid H
  have HS := Lib.hid hs
  have hl0 : (0 : Int) ≤ (a.l.length : Int) := by omega
  have hl1 : (a.l.length : Int) ≤ 2147483647 := by have := H.most; omega
  clear H hs
  go_enter Try.func43, Try.ntmps43
  go_wp2
  go_loopg [9, 10] a.l.length (fun g v9 v10 wr => BSRel w a.l run g v9 v10 wr)
  case atStart => exact ⟨0, a.l.length, by omega, Nat.le_refl _, rfl, rfl, fun k x hk => by omega, fun k x hk hx => by have := (List.getElem?_eq_some_iff.1 hx).1; omega, by (repeat (first | exact Fr.refl _ _ | assumption | refine Fr.drew ?_ | refine Fr.drewL ?_ | refine Fr.alloc ?_ _))⟩
  case round =>
    obtain ⟨i, j, hjg, hj, rfl, rfl, hlo, hup, hF⟩ := hrel
    have HLO := Lib.hid hlo
    have HUP := Lib.hid hup
    have HF := Lib.hid hF
    have hi0 : (0 : Int) ≤ (i : Int) := by omega
    have hj1 : (j : Int) ≤ (a.l.length : Int) := by omega
    clear hlo hup hF
    have HJG := Lib.hid hjg
    by_cases hij : i < j
    · have hij1 : (i : Int) < (j : Int) := by omega
      obtain ⟨m, hm⟩ : ∃ m : Nat, m = (i + j) / 2 := ⟨_, rfl⟩
      have hm' : ((i : Int) + (j : Int)) / 2 = (m : Int) := by omega
      have hm0 : (0 : Int) ≤ (m : Int) := by omega
      have hm1 : (m : Int) < (a.l.length : Int) := by omega
      have HM := Lib.hid (show i ≤ m ∧ m < j by omega)
      obtain ⟨x, hx⟩ : ∃ x, a.l[m]? = some x := ⟨_, List.getElem?_eq_getElem (by omega)⟩
      have HH1 := Lib.hid (HH.out.fr0 HF.out)
      obtain ⟨b, hb⟩ : ∃ b, bs[m]? = some b := ⟨_, List.getElem?_eq_getElem (by rw [HH1.out.len]; omega)⟩
      have HB := Lib.hid (HH1.out.work m b x hb hx)
      have HX := Lib.hid hx
      obtain ⟨g0, o0, hA, hg0, hcell, _⟩ := (Sl.of_own HH1.out.row).cells (by omega)
      subst hA
      have k0 := hcell m (.pointer (some ⟨b, 0, none⟩)) (by simp [hb])
      clear hcell hx hb hm hjg
      have HF0 := Lib.hid HF.out
      by_cases hlt : x.run < run
      · have HC : Hid (cmpI x.run run = -1) := Lib.hid (by simp [cmpI, hlt])
        have HLT := Lib.hid hlt
        clear hlt
        go_wp2_with (go_at_call 44; refine (find1_any b x run _ HB.out).mono ?_; rintro e w1 ⟨he, hf1⟩; rw [HC.out] at he; obtain rfl := he)
        go_roundg (j - (m + 1))
        case measure => have := HJG.out; have := HM.out; omega
        case rel => exact ⟨m + 1, j, by have := HM.out; omega, hj, by go_num, rfl, fun k y hk hy => by have := sorted_le HS.out (by omega) hy HX.out; have := HLT.out; omega, HUP.out, HF0.out.trans hf1⟩
      · have hc : ¬ cmpI x.run run < 0 := by unfold cmpI; rw [if_neg hlt]; split <;> omega
        obtain ⟨cc, hcc⟩ : ∃ cc, cc = cmpI x.run run := ⟨_, rfl⟩
        rw [← hcc] at hc
        have HC := Lib.hid hcc
        have HLT := Lib.hid hlt
        have hc1 : decide (cc < 0) = false := by simpa using hc
        clear hlt hcc
        go_wp2_with (go_at_call 44; refine (find1_any b x run _ HB.out).mono ?_; rintro e w1 ⟨he, hf1⟩; rw [← HC.out] at he; obtain rfl := he)
        go_roundg (m - i)
        case measure => have := HJG.out; have := HM.out; omega
        case rel => exact ⟨i, m, by have := HM.out; omega, by have := HM.out; omega, rfl, rfl, HLO.out, fun k y hk hy => by have := sorted_le HS.out hk HX.out hy; have := HLT.out; omega, HF0.out.trans hf1⟩
    · obtain rfl : i = j := by omega
      have HP := Lib.hid (posA_eq hj HLO.out (fun x hx => HUP.out i x (Nat.le_refl _) hx))
      have HH1 := Lib.hid (HH.out.fr0 HF.out)
      have HF0 := Lib.hid HF.out
      clear hjg HJG
      by_cases hn : i < a.l.length
      · have hn1 : (i : Int) < (a.l.length : Int) := by omega
        obtain ⟨x, hx⟩ : ∃ x, a.l[i]? = some x := ⟨_, List.getElem?_eq_getElem hn⟩
        obtain ⟨b, hb⟩ : ∃ b, bs[i]? = some b := ⟨_, List.getElem?_eq_getElem (by rw [HH1.out.len]; exact hn)⟩
        have HB := Lib.hid (HH1.out.work i b x hb hx)
        obtain ⟨g0, o0, hA, hg0, hcell, _⟩ := (Sl.of_own HH1.out.row).cells (by omega)
        subst hA
        have k0 := hcell i (.pointer (some ⟨b, 0, none⟩)) (by simp [hb])
        have HAT := Lib.hid (show (atA run a.l).isSome = (cmpI x.run run == 0) by
          unfold atA cmpI
          rw [HP.out, hx]
          by_cases h1 : x.run = run
          · simp [h1]
          · by_cases h2 : x.run < run
            · simp [h1, h2]
            · simp [h1, h2, show run < x.run by omega])
        clear hcell hx hb
        obtain ⟨cc, hcc⟩ : ∃ cc, cc = cmpI x.run run := ⟨_, rfl⟩
        rw [← hcc] at HAT
        have HC := Lib.hid hcc
        clear hcc
        go_wp2_with (go_at_call 44; refine (find1_any b x run _ HB.out).mono ?_; rintro e w1 ⟨he, hf1⟩; rw [← HC.out] at he; obtain rfl := he)
        exact bodyPost_ret (bs_res rfl rfl) rfl ⟨by rw [HP.out, HAT.out]; rfl, HF0.out.trans hf1⟩
      · have hn1 : ¬ i < a.l.length := hn
        have HAT := Lib.hid (show (atA run a.l).isSome = false by
          unfold atA
          rw [HP.out, List.getElem?_eq_none (by omega)]
          rfl)
        go_wp2
        exact bodyPost_ret (bs_res rfl rfl) rfl ⟨by rw [HP.out, HAT.out]; rfl, HF0.out⟩
end Go.Proofs.Ytohnchkoldbpcaa

/- agent: find. -/
namespace Go.Proofs.Ytohnchkoldbpcaa
open Go Go.RowKit Go.Proofs

theorem find_res {tmps : Array Value} {w : World} {v : Value} {e : Bool} (h4 : tmps.getD 4 undef = v) (h5 : tmps.getD 5 undef = .bool e) :
    (results Try.f29 tmps).run Try.prog w = .ok (.tuple #[v, .bool e]) w := by
  simp only [Array.getD_eq_getD_getElem?] at h4 h5
  simp [results, Try.results29, go_sem, h4, h5]
theorem find_any (q : Nat) (u : Value) (bs : List Nat) (a : AgS) (run : Int) (w : World) (H : AgAt w q u bs a) (hs : SortedA a.l) :
    Calls Try.prog 29 #[.pointer (some ⟨q, 0, none⟩), .int .i64 run] w fun e w' => e = .returned (.tuple #[.int .i64 (posA run a.l : Int), .bool (atA run a.l).isSome]) ∧ Fr No w w' := by
  obtain ⟨A, c, rfl, hc⟩ := own_shape H.row
  have c2 := H.blk.cell 2
  have cl := H.blk.lt
  simp only [List.getElem?_cons_zero, List.getElem?_cons_succ] at c2
  have HH := Lib.hid H
  have HS := Lib.hid hs
  clear H hs
  obtain ⟨pp, hpp⟩ : ∃ pp, pp = posA run a.l := ⟨_, rfl⟩
  obtain ⟨ee, hee⟩ : ∃ ee, ee = (atA run a.l).isSome := ⟨_, rfl⟩
  rw [← hpp, ← hee]
  have HP := Lib.hid hpp
  have HE := Lib.hid hee
  clear hpp hee
  go_enter Try.func29, Try.ntmps29
  go_wp2_with (go_at_call 43; refine (bs_any q A c bs a run _ HH.out HS.out).mono ?_; rintro e w1 ⟨he, hf1⟩; rw [← HP.out, ← HE.out] at he; obtain rfl := he)
  exact bodyPost_ret (find_res rfl rfl) rfl ⟨rfl, by assumption⟩
end Go.Proofs.Ytohnchkoldbpcaa

/- agent: List. -/
namespace Go.Proofs.Ytohnchkoldbpcaa
open Go Go.RowKit Go.Proofs

abbrev workV (x : WorkS) : List Value := [.int .i64 x.run, .bool x.over, .bool x.known, .int .i64 x.fin, .int .i64 x.code]
theorem work_info : (Try.prog.info? 78).map (fun i => (i.zero, i.size, i.bytes)) = some (some (.agg #[.int .i64 0, .bool false, .bool false, .int .i64 0, .int .i64 0]), 5, 32) := by kernel_rfl
theorem lwork_und : Try.prog.underlying 40 = some (.slice 78) := by kernel_rfl
theorem workV_one (x : WorkS) : ∀ u ∈ workV x, u.oneCell' = true := List.all_eq_true.1 (by rfl)
theorem list_nil (w : World) : Calls Try.prog 14 #[.pointer none] w fun e w' => e = .returned (.slice none 0 0) ∧ Fr No w w' := by
  go_enter Try.func14, Try.ntmps14
  go_wp2
  go_ret
  exact ⟨rfl, by (repeat (first | exact Fr.refl _ _ | assumption | refine Fr.drew ?_ | refine Fr.drewL ?_ | refine Fr.alloc ?_ _))⟩
def LiRel (w : World) (l : List WorkS) (g : Nat) (v3 v13 : Value) (wr : World) : Prop :=
  ∃ (i : Nat) (v : Value), i + g = l.length ∧ v13 = .int .i64 i ∧ v = v3 ∧ wr.ownsRow w.heap.size 78 5 v i ((l.take i).flatMap workV) ∧ Fr No w wr
set_option maxRecDepth 100000 in
set_option maxHeartbeats 1000000 in
theorem aglist_any (q : Nat) (u : Value) (bs : List Nat) (a : AgS) (w : World) (H : AgAt w q u bs a) (hm : a.l.length ≤ 1000000) :
    Calls Try.prog 14 #[.pointer (some ⟨q, 0, none⟩)] w fun e w' => ∃ v, e = .returned v ∧ w'.ownsRow w.heap.size 78 5 v a.l.length (a.l.flatMap workV) ∧ Fr No w w' := by
  obtain ⟨A, c, rfl, hc⟩ := own_shape H.row
  obtain ⟨i0, hi0, hz0, hzs0, hy0⟩ := info_parts work_info
  have c2 := H.blk.cell 2
  have cl := H.blk.lt
  simp only [List.getElem?_cons_zero, List.getElem?_cons_succ] at c2
  have HH := Lib.hid H
  have hl0 : (0 : Int) ≤ (a.l.length : Int) := by omega
  have hl1 : (a.l.length : Int) ≤ 2147483647 := by omega
  clear H
  go_enter Try.func14, Try.ntmps14
  go_wp2
  go_loopg [3, 13] a.l.length (fun g v3 v13 wr => LiRel w a.l g v3 v13 wr)
  case atStart => exact ⟨0, .slice none 0 0, by omega, rfl, rfl, World.ownsRow_nil _ _ _ _, by (repeat (first | exact Fr.refl _ _ | assumption | refine Fr.drew ?_ | refine Fr.drewL ?_ | refine Fr.alloc ?_ _))⟩
  case round =>
    obtain ⟨i, v, hgi, rfl, rfl, hown, hF⟩ := hrel
    have HO := Lib.hid hown
    have HF := Lib.hid hF
    have hn0 : (0 : Int) ≤ (i : Int) := by omega
    by_cases hi : i < a.l.length
    · have hi1 : (i : Int) < (a.l.length : Int) := by omega
      obtain ⟨x, hx⟩ : ∃ x, a.l[i]? = some x := ⟨_, List.getElem?_eq_getElem hi⟩
      have HH1 := Lib.hid (HH.out.fr0 HF.out)
      obtain ⟨b, hb⟩ : ∃ b, bs[i]? = some b := ⟨_, List.getElem?_eq_getElem (by rw [HH1.out.len]; exact hi)⟩
      have hbl := HH1.out.work i b x hb hx
      have e0 := hbl.cell 0
      have e1 := hbl.cell 1
      have e2 := hbl.cell 2
      have e3 := hbl.cell 3
      have e4 := hbl.cell 4
      have el := hbl.lt
      obtain ⟨g0, o0, hA, hg0, hcell, _⟩ := (Sl.of_own HH1.out.row).cells (by omega)
      subst hA
      have k0 := hcell i (.pointer (some ⟨b, 0, none⟩)) (by simp [hb])
      simp only [List.getElem?_cons_zero, List.getElem?_cons_succ] at e0 e1 e2 e3 e4
      have HX := Lib.hid (show a.l.take (i + 1) = a.l.take i ++ [x] by rw [List.take_add_one, hx]; rfl)
      obtain ⟨B, cB, rfl, _⟩ := own_shape hown
      have HO2 := Lib.hid (own_fr0 HO.out ((Fr.refl No wr).alloc (Obj.cells (workV x).toArray 78)))
      have HN2 : Hid (Sl (wr.alloc (Obj.cells (workV x).toArray 78)) 78 5 (some ⟨wr.heap.size, 0, none⟩) 1 (workV x)) := Lib.hid (Sl.of_new wr 78 5 1 _ _ rfl rfl)
      clear hcell hx hb hbl hown hF
      go_wp2_with (at_builtin; go_loud (refine wpList_append_owned' (by rfl) (.tmp 17) (.tmp 22) 40 (by rfl) w.heap.size 78 i0 _ 5 32 lwork_und hi0 hz0 hzs0 hy0 rfl (by omega) (.slice B i cB) i ((a.l.take i).flatMap workV) (by rfl) HO2.out (some ⟨wr.heap.size, 0, none⟩) 1 1 78 (workV x) (by rfl) HN2.out (workV_one x) (by simp only [maxLen]; omega) (by omega) (by have := HF.out.size; simp only [World.size_alloc]; omega) ?_); intro v4 w4 ho hg hat)
      go_roundg (a.l.length - (i + 1))
      case measure => omega
      case rel => exact ⟨i + 1, _, by omega, by go_num, rfl, by rw [HX.out, List.flatMap_append, List.flatMap_cons, List.flatMap_nil, List.append_nil]; exact ho, (HF.out.alloc _).step (Fr.of_grown hg) fun k hk => .inr (own_size HO.out k hk.symm).1⟩
    · obtain rfl : i = a.l.length := by omega
      rw [List.take_length] at hown
      have HO3 := Lib.hid hown
      clear hown hF HO
      go_wp2
      go_ret
      exact ⟨_, rfl, HO3.out, HF.out⟩
end Go.Proofs.Ytohnchkoldbpcaa

/- agent: a hub's Tick. -/
namespace Go.Proofs.Ytohnchkoldbpcaa
open Go Go.RowKit Go.Proofs

theorem htick_nil (n : Int) (w : World) : Calls Try.prog 10 #[.pointer none, .int .i64 n] w fun e w' => e = .returned (.slice none 0 0) ∧ Fr No w w' := by
  go_enter Try.func10, Try.ntmps10
  go_wp2
  go_ret
  exact ⟨rfl, by (repeat (first | exact Fr.refl _ _ | assumption | refine Fr.drew ?_ | refine Fr.drewL ?_ | refine Fr.alloc ?_ _))⟩
theorem ask_nil (run mins code clock : Int) (job : ByteArray) (w : World) : Calls Try.prog 6 #[.pointer none, .int .i64 run, .int .i64 mins, .int .i64 code, .string job, .int .i64 clock] w fun e w' => e = .returned (.tuple #[zeroMsg.val, .int .i64 2]) ∧ Fr No w w' := by
  have HB := Blk.new w 26 zeroMsg.vals
  go_enter Try.func6, Try.ntmps6
  go_wp2
  exact bodyPost_ret (ask_res (x := zeroMsg) HB rfl rfl) rfl ⟨rfl, by (repeat (first | exact Fr.refl _ _ | assumption | refine Fr.drew ?_ | refine Fr.drewL ?_ | refine Fr.alloc ?_ _))⟩
/-! ### what a tick does, one after another -/
def tkF (clock : Int) (r : Req) : Req := if againB clock r then { r with sent := clock } else r
def tkL (h : HubS) (clock : Int) (i : Nat) : List Req := h.l.mapIdx fun k r => if h.frm ≤ k ∧ k < h.frm + i then tkF clock r else r
def tkM (h : HubS) (clock : Int) (i : Nat) : List Msg := (((h.l.drop h.frm).take i).filter (againB clock)).map (startM h)
theorem tkF_run (clock : Int) (r : Req) : (tkF clock r).run = r.run := by unfold tkF; split <;> rfl
theorem tkL_len (h : HubS) (clock : Int) (i : Nat) : (tkL h clock i).length = h.l.length := by simp [tkL]
theorem tkL_get (h : HubS) (clock : Int) (i k : Nat) : (tkL h clock i)[k]? = (h.l[k]?).map fun r => if h.frm ≤ k ∧ k < h.frm + i then tkF clock r else r := by simp [tkL]
theorem tkL_zero (h : HubS) (clock : Int) : tkL h clock 0 = h.l := by
  apply List.ext_getElem?
  intro k
  rw [tkL_get]
  have e : ∀ r : Req, (if h.frm ≤ k ∧ k < h.frm + 0 then tkF clock r else r) = r := fun r => if_neg (by omega)
  simp only [e, Option.map_id_fun', id]
theorem tkL_at {h : HubS} {clock : Int} {i : Nat} {r : Req} (hr : h.l[h.frm + i]? = some r) : (tkL h clock i)[h.frm + i]? = some r := by
  rw [tkL_get, hr, Option.map_some, if_neg (by omega)]
theorem tkL_succ {h : HubS} {clock : Int} {i : Nat} {r : Req} (hr : h.l[h.frm + i]? = some r) : tkL h clock (i + 1) = (tkL h clock i).set (h.frm + i) (tkF clock r) := by
  apply List.ext_getElem?
  intro k
  have hl := (List.getElem?_eq_some_iff.1 hr).1
  rw [tkL_get, List.getElem?_set, tkL_len]
  by_cases e : h.frm + i = k
  · subst e
    rw [if_pos rfl, if_pos hl, hr, Option.map_some, if_pos (by omega)]
  · rw [if_neg e, tkL_get]
    congr 1
    funext r'
    by_cases c : h.frm ≤ k ∧ k < h.frm + i
    · rw [if_pos c, if_pos (by omega)]
    · rw [if_neg c, if_neg (by omega)]
theorem tkL_skip {h : HubS} {clock : Int} {i : Nat} {r : Req} (hr : h.l[h.frm + i]? = some r) (ha : againB clock r = false) : tkL h clock (i + 1) = tkL h clock i := by
  rw [tkL_succ hr]
  have e : tkF clock r = r := by unfold tkF; rw [if_neg (by rw [ha]; simp)]
  rw [e]
  apply List.ext_getElem?
  intro k
  rw [List.getElem?_set]
  split
  · rename_i e
    subst e
    have hl := (List.getElem?_eq_some_iff.1 hr).1
    rw [if_pos (by rw [tkL_len]; exact hl), tkL_at hr]
  · rfl
theorem tkL_all {h : HubS} (clock : Int) (hf : h.frm ≤ h.l.length) : tkL h clock (h.l.length - h.frm) = h.l.take h.frm ++ (h.l.drop h.frm).map (tkF clock) := by
  apply List.ext_getElem?
  intro k
  rw [tkL_get]
  have hl : (h.l.take h.frm).length = h.frm := by rw [List.length_take]; omega
  by_cases c : k < h.frm
  · rw [List.getElem?_append_left (by rw [hl]; exact c), List.getElem?_take_of_lt c]
    have e : ∀ r : Req, (if h.frm ≤ k ∧ k < h.frm + (h.l.length - h.frm) then tkF clock r else r) = r := fun r => if_neg (by omega)
    simp only [e, Option.map_id_fun', id]
  · rw [List.getElem?_append_right (by omega), hl, List.getElem?_map, List.getElem?_drop, show h.frm + (k - h.frm) = k by omega]
    cases hk : h.l[k]? with
    | none => rfl
    | some r =>
      have := (List.getElem?_eq_some_iff.1 hk).1
      rw [Option.map_some, Option.map_some, if_pos (by omega)]
theorem tkL_runs (h : HubS) (clock : Int) (i : Nat) : (tkL h clock i).map (fun r => r.run) = h.l.map fun r => r.run := by
  apply List.ext_getElem?
  intro k
  rw [List.getElem?_map, tkL_get, List.getElem?_map, Option.map_map]
  congr 1
  funext r
  show (if h.frm ≤ k ∧ k < h.frm + i then tkF clock r else r).run = r.run
  split
  · exact tkF_run _ _
  · rfl
theorem lastR_runs {l l' : List Req} (h : l'.map (fun r => r.run) = l.map fun r => r.run) : lastR l' = lastR l := by
  have e : ∀ l : List Req, lastR l = ((l.map fun r => r.run).getLast?).getD 0 := fun l => by
    unfold lastR
    rw [List.getLast?_map]
    cases l.getLast? <;> rfl
  rw [e, e, h]
theorem low_runs {h h' : HubS} (hl : h'.l.map (fun r => r.run) = h.l.map fun r => r.run) (hf : h'.frm = h.frm) : h'.low = h.low := by
  have e : ∀ h : HubS, h.low = ((h.l.map fun r => r.run)[h.frm]?).getD (lastR h.l + 1) := fun h => by
    unfold HubS.low
    rw [List.getElem?_map]
    cases h.l[h.frm]? <;> rfl
  rw [e, e, hl, hf, lastR_runs hl]
theorem tkM_succ {h : HubS} {clock : Int} {i : Nat} {r : Req} (hr : h.l[h.frm + i]? = some r) : tkM h clock (i + 1) = tkM h clock i ++ (if againB clock r then [startM h r] else []) := by
  unfold tkM
  rw [List.take_add_one, List.getElem?_drop, hr, List.filter_append, List.map_append]
  congr 1
  simp only [Option.toList, List.filter_cons, List.filter_nil]
  split <;> rfl
theorem tkM_len (h : HubS) (clock : Int) (i : Nat) : (tkM h clock i).length ≤ h.l.length := by
  unfold tkM
  rw [List.length_map]
  refine Nat.le_trans (List.length_filter_le _ _) ?_
  rw [List.length_take, List.length_drop]
  omega
theorem tick_eq {h : HubS} {clock : Int} (hf : h.frm ≤ h.l.length) (hc : isClockB clock = true) : h.tick clock = ({ h with l := tkL h clock (h.l.length - h.frm) }, tkM h clock (h.l.length - h.frm)) := by
  unfold HubS.tick
  rw [if_pos hc, tkL_all clock hf]
  unfold tkM
  rw [List.take_of_length_le (l := h.l.drop h.frm) (i := h.l.length - h.frm) (by rw [List.length_drop]; exact Nat.le_refl _)]
  rfl
/-! ### Tick -/
def HtRel (w : World) (p m : Nat) (u : Value) (bs : List Nat) (h : HubS) (clock : Int) (g : Nat) (v5 v26 : Value) (wr : World) : Prop :=
  ∃ (i : Nat) (v : Value), i + g = h.l.length - h.frm ∧ v26 = .int .i64 i ∧ v5 = v ∧ HubAt wr p m u bs { h with l := tkL h clock i } ∧
    wr.ownsRow w.heap.size 26 8 v (tkM h clock i).length ((tkM h clock i).flatMap Msg.vals) ∧ Fr (HubF p m u bs) w wr
theorem htick_not (p m : Nat) (u : Value) (bs : List Nat) (h : HubS) (w : World) (H : HubAt w p m u bs h) (clock : Int) (hc : isClockB clock = false) :
    Calls Try.prog 10 #[.pointer (some ⟨p, 0, none⟩), .int .i64 clock] w fun e w' => e = .returned (.slice none 0 0) ∧ Fr No w w' := by
  have HC := Lib.hid hc
  clear H hc
  go_enter Try.func10, Try.ntmps10
  go_wp2_with (go_at_call 23; refine (isClock_any _ _).mono ?_; rintro e w1 ⟨he, hw1⟩; rw [HC.out] at he; obtain rfl := he; subst w1)
  go_ret
  exact ⟨rfl, by (repeat (first | exact Fr.refl _ _ | assumption | refine Fr.drew ?_ | refine Fr.drewL ?_ | refine Fr.alloc ?_ _))⟩
set_option maxRecDepth 100000 in
set_option maxHeartbeats 1000000 in
theorem htick_ok (p m : Nat) (u : Value) (bs : List Nat) (h : HubS) (w : World) (H : HubAt w p m u bs h) (clock : Int) (hc : isClockB clock = true) (hsent : ∀ (i : Nat) (r : Req), h.l[i]? = some r → 0 ≤ r.sent ∧ r.sent ≤ 5258966399) (hmx : lastR h.l ≤ 2147483647) (hmn : 0 ≤ lastR h.l) :
    Calls Try.prog 10 #[.pointer (some ⟨p, 0, none⟩), .int .i64 clock] w fun e w' => ∃ v, e = .returned v ∧ w'.ownsRow w.heap.size 26 8 v (h.tick clock).2.length ((h.tick clock).2.flatMap Msg.vals) ∧ HubAt w' p m u bs (h.tick clock).1 ∧ Fr (HubF p m u bs) w w' := by
  have HT := Lib.hid (tick_eq H.frm hc)
  obtain ⟨j0, hj0, jz0, jz1, jz2⟩ := info_parts msg_info
  have c2 := H.blk.cell 2
  have c3 := H.blk.cell 3
  have c4 := H.blk.cell 4
  have cl := H.blk.lt
  simp only [List.getElem?_cons_zero, List.getElem?_cons_succ] at c2 c3 c4
  have hl0 : (0 : Int) ≤ (h.l.length : Int) := by omega
  have hl1 : (h.l.length : Int) ≤ 2147483647 := by have := H.most; omega
  obtain ⟨A, c, rfl, hcc⟩ := own_shape H.row
  have hsl := slice_i64 (A := A) .i64 h.frm H.frm hcc
  obtain ⟨B, hB⟩ : ∃ B, B = (if c = h.frm then A else A.map (·.add (h.frm * 1))) := ⟨_, rfl⟩
  rw [← hB] at hsl
  have HBB := Lib.hid hB
  have HH := Lib.hid H
  have HCC := Lib.hid hcc
  have HC := Lib.hid hc
  have HSENT := Lib.hid hsent
  have HMX := Lib.hid hmx
  have HMN := Lib.hid hmn
  have hclk : 0 ≤ clock ∧ clock ≤ 5258966399 := by unfold isClockB at hc; simpa using hc
  obtain ⟨hclk0, hclk1⟩ := hclk
  have hf0 : (0 : Int) ≤ (h.frm : Int) := by omega
  obtain ⟨N, hN⟩ : ∃ N, N = h.l.length - h.frm := ⟨_, rfl⟩
  have HNN := Lib.hid hN
  have HFL := Lib.hid H.frm
  have HLT := Lib.hid H.lt
  rw [← hN] at hsl
  have hN0 : (0 : Int) ≤ (N : Int) := by omega
  have hN1 : (N : Int) ≤ 2147483647 := by omega
  clear H hB hN hcc hc hsent hmx hmn
  go_enter Try.func10, Try.ntmps10
  go_wp2_with (go_at_call 23; refine (isClock_any _ _).mono ?_; rintro e w1 ⟨he, hw1⟩; rw [HC.out] at he; obtain rfl := he; subst w1)
  refine wp_region_o [(0, 0), (1, 0), (2, 0), (4, 0), (5, 0), (6, 0), (10, 0), (3, 1), (7, 1), (8, 0), (9, 1)] (by kernel_rfl) (by kernel_rfl) ?_
  repeat (first
    | (apply wpO_pure rfl rfl; (focus (intro w'; go_simp; (try rfl); done)); try simp only [Act.put, List.setIfInBounds_toArray, List.set_cons_zero, List.set_cons_succ])
    | (apply wpO_read rfl rfl; (focus (intro w' hf' hs'; (try simp only [World.size_drew, World.cell?_drew, World.size_alloc, World.size_setCell] at hs'); go_simp; (try rfl); done)); try simp only [Act.put, List.setIfInBounds_toArray, List.set_cons_zero, List.set_cons_succ])
    | (apply wpO_skip (by decide) rfl rfl; try simp only [Act.put, List.setIfInBounds_toArray, List.set_cons_zero, List.set_cons_succ]))
  refine wpO_nil ?_
  go_wp2
  go_loopg [5, 26] N (fun g v5 v26 wr => HtRel w p m (.slice A h.l.length c) bs h clock g v5 v26 wr)
  case atStart => exact ⟨0, .slice none 0 0, by have := HNN.out; omega, rfl, rfl, by rw [tkL_zero]; exact HH.out.fr0 (by (repeat (first | exact Fr.refl _ _ | assumption | refine Fr.drew ?_ | refine Fr.drewL ?_ | refine Fr.alloc ?_ _))), World.ownsRow_nil _ _ _ _, by (repeat (first | exact Fr.refl _ _ | assumption | refine Fr.drew ?_ | refine Fr.drewL ?_ | refine Fr.alloc ?_ _))⟩
  case round =>
    obtain ⟨i, v, hgi, rfl, rfl, hH, hown, hF⟩ := hrel
    have HH1 := Lib.hid hH
    have HF1 := Lib.hid hF
    have HO := Lib.hid hown
    have hi0 : (0 : Int) ≤ (i : Int) := by omega
    rw [← HNN.out] at hgi
    clear hH hF
    by_cases hi : i < N
    · have hi1 : (i : Int) < (N : Int) := by omega
      obtain ⟨b, r, hb, hr0, hblk⟩ := HH1.out.at_ (i := h.frm + i) (by have := HNN.out; have := tkL_len h clock i; simp only; omega)
      have hr : h.l[h.frm + i]? = some r := by
        have : h.frm + i < h.l.length := by have := HNN.out; omega
        have h1 := tkL_at (clock := clock) (List.getElem?_eq_getElem this)
        simp only [h1] at hr0
        rw [List.getElem?_eq_getElem this, hr0]
      have hrow : wr.ownsRow 0 2 1 (.slice A h.l.length c) h.l.length (runV h.l) := by
        have h1 := HH1.out.row
        simp only [tkL_len, runV, tkL_runs] at h1
        exact h1
      have hsl2 := (Sl.of_own hrow).drop (k := h.frm) HFL.out HCC.out
      rw [← HBB.out] at hsl2
      have hd : (h.l.map fun r => r.run).drop h.frm = (h.l.drop h.frm).map fun r => r.run := by rw [List.map_drop]
      rw [Nat.mul_one, ← List.map_drop, hd, ← List.length_drop, ← List.length_map (f := fun r : Req => r.run)] at hsl2
      obtain ⟨g1, o1, hBB, hg1, k1⟩ := ints_at hsl2 (k := i) (x := r.run) (by rw [List.getElem?_map, List.getElem?_drop, hr]; rfl)
      subst hBB
      have d1 := HH1.out.blk.cell 2
      have d2 := HH1.out.blk.lt
      have l1 := HH1.out.look hb hr0
      have r0 := hblk.cell 0
      have r4 := hblk.cell 4
      have rl := hblk.lt
      have rz := hblk.frozens
      simp only [List.getElem?_cons_zero, List.getElem?_cons_succ] at d1 r0 r4
      have HRR := Lib.hid hr
      have HB0 := Lib.hid hb
      have HR0 := Lib.hid hr0
      obtain ⟨hs0, hs1⟩ := HSENT.out _ _ hr
      obtain ⟨d, hd'⟩ : ∃ d, d = clock - r.sent := ⟨_, rfl⟩
      have hdw : IntKind.i64.wrap (clock - r.sent) = d := by rw [IntWalk.i64_in _ (by omega)]; exact hd'.symm
      have HD := Lib.hid hd'
      have hd0 : -5258966399 ≤ d := by omega
      have hd1 : d ≤ 5258966399 := by omega
      have HMS := Lib.hid (tkM_succ (clock := clock) hr)
      have hnb : b < w.heap.size := HLT.out b (.inr (.inr (.inl (List.mem_of_getElem? hb))))
      clear hsl2 hd hblk hrow hr hb hr0 hd' hown
      by_cases h2 : r.state = 0
      · have HQ := Lib.hid h2
        rw [h2] at r0
        clear h2
        by_cases h5 : 5 ≤ d
        · have HAG := Lib.hid (show againB clock r = true by unfold againB; rw [HQ.out, ← HD.out]; simpa using h5)
          obtain ⟨A5, c5, rfl, _⟩ := own_shape HO.out
          obtain ⟨h1, hh1⟩ : ∃ h1 : HubS, h1 = { h with l := (tkL h clock i).set (h.frm + i) { r with sent := clock } } := ⟨_, rfl⟩
          have hl1' : h1.l = tkL h clock (i + 1) := by rw [hh1, tkL_succ HRR.out]; unfold tkF; rw [HAG.out]; rfl
          have hq : (h.frm + i) < (tkL h clock i).length := (List.getElem?_eq_some_iff.1 HR0.out).1
          have HI1 := Lib.hid (show h1.l[h.frm + i]? = some { r with sent := clock } by rw [hh1]; exact List.getElem?_set_self hq)
          have HS1 : Hid (HubAt (wr.setCell ⟨b, 4, none⟩ (.int .i64 clock)) p m (.slice A h.l.length c) bs h1) := Lib.hid (by rw [hh1]; exact HH1.out.setReq (k := 4) (v := .int .i64 clock) (r' := { r with sent := clock }) HB0.out HR0.out rfl rfl)
          have HLR := Lib.hid (show lastR h1.l = lastR h.l by rw [hl1']; exact lastR_runs (tkL_runs h clock (i + 1)))
          have HSM := Lib.hid (show startM h1 { r with sent := clock } = startM h r by
            unfold startM
            rw [low_runs (h := h) (h' := h1) (by rw [hl1']; exact tkL_runs h clock (i + 1)) (by rw [hh1]), hh1])
          have HE1 := Lib.hid (show h1 = { h with l := tkL h clock (i + 1) } by rw [hh1]; congr 1; rw [← hl1', hh1])
          have HSO : Hid ((wr.setCell ⟨b, 4, none⟩ (.int .i64 clock)).ownsRow w.heap.size 26 8 (.slice A5 (tkM h clock i).length c5) (tkM h clock i).length ((tkM h clock i).flatMap Msg.vals)) :=
            Lib.hid (own_fr (S := fun k => k = b) HO.out (fr_cell rfl) fun k hk e => by have h1 := (own_size HO.out k hk).1; have e : k = b := e; omega)
          have HML := Lib.hid (show (tkM h clock i).length ≤ h.l.length from tkM_len h clock i)
          clear hh1 hl1' hq
          go_wp2_with (first
            | (go_at_call 25
               refine (start_any p m _ bs h1 _ HS1.out (by rw [HLR.out]; exact HMX.out) (by rw [HLR.out]; exact HMN.out) HB0.out HI1.out).mono ?_
               rintro e w3 ⟨he, hf3⟩
               rw [HSM.out] at he
               obtain rfl := he
               have HO3 := Lib.hid (own_fr0 (own_fr0 HSO.out hf3) ((Fr.refl No w3).alloc (Obj.cells (startM h r).vals.toArray 26)))
               have HN3 : Hid (Sl (w3.alloc (Obj.cells (startM h r).vals.toArray 26)) 26 8 (some ⟨w3.heap.size, 0, none⟩) 1 (startM h r).vals) := Lib.hid (Sl.of_new w3 26 8 1 _ _ rfl rfl)
               have HS3 := Lib.hid ((HS1.out.fr0 hf3).fr0 ((Fr.refl No w3).alloc (Obj.cells (startM h r).vals.toArray 26)))
               have HF3 : Hid (Fr (HubF p m (.slice A h.l.length c) bs) w (w3.alloc (Obj.cells (startM h r).vals.toArray 26))) := Lib.hid ((Fr.trans (HF1.out.trans (fr_cell (.inr (.inr (.inl (List.mem_of_getElem? HB0.out)))))) (hf3.any _)).alloc _)
               clear hf3)
            | (at_builtin; go_loud (refine wpList_append_owned' (by rfl) (.tmp 54) (.tmp 58) 30 (by rfl) w.heap.size 26 j0 _ 8 72 Try.underlying30 hj0 jz0 jz1 jz2 rfl (by omega) (.slice A5 (tkM h clock i).length c5) (tkM h clock i).length ((tkM h clock i).flatMap Msg.vals) (by rfl) HO3.out (some ⟨w3.heap.size, 0, none⟩) 1 1 26 (startM h r).vals (by rfl) HN3.out (List.all_eq_true.1 (by rfl)) (by have := HML.out; simp only [maxLen]; omega) (by have := HML.out; omega) (by have := HF3.out.size; simp only [World.size_alloc] at this ⊢; omega) ?_); intro v4 w4 ho hg hat))
          have HEX := Lib.hid (show ∀ k, HubF p m (.slice A h.l.length c) bs k → ¬ (some k = (Value.slice A5 (tkM h clock i).length c5).ownBlock) from fun k hk e => by have h1 := (own_size HO3.out k e.symm).1; have h2 := HLT.out k hk; omega)
          go_roundg (N - (i + 1))
          case measure => omega
          case rel => exact ⟨i + 1, _, by have := HNN.out; omega, by go_num, rfl, by rw [← HE1.out]; exact HS3.out.fr (Fr.of_grown hg) HEX.out, by rw [HMS.out, HAG.out, if_pos rfl, List.flatMap_append, List.length_append]; simpa using ho, HF3.out.step (Fr.of_grown hg) fun k hk => .inr (own_size HO3.out k hk.symm).1⟩
        · have HAG := Lib.hid (show againB clock r = false by unfold againB; rw [HQ.out, ← HD.out]; simpa using h5)
          have h6 : decide (5 ≤ d) = false := by simpa using h5
          clear h5
          go_wp2
          go_roundg (N - (i + 1))
          case measure => omega
          case rel => exact ⟨i + 1, _, by have := HNN.out; omega, by go_num, rfl, by rw [tkL_skip HRR.out HAG.out]; exact HH1.out, by rw [HMS.out, HAG.out, if_neg (by simp), List.append_nil]; exact HO.out, HF1.out⟩
      · have HAG := Lib.hid (show againB clock r = false by unfold againB; rw [show (r.state == 0) = false by simpa using h2]; rfl)
        have h3 : (r.state == 0) = false := by simpa using h2
        clear h2
        go_wp2
        go_roundg (N - (i + 1))
        case measure => omega
        case rel => exact ⟨i + 1, _, by have := HNN.out; omega, by go_num, rfl, by rw [tkL_skip HRR.out HAG.out]; exact HH1.out, by rw [HMS.out, HAG.out, if_neg (by simp), List.append_nil]; exact HO.out, HF1.out⟩
    · obtain rfl : i = N := by omega
      obtain ⟨B2, cB, rfl, _⟩ := own_shape hown
      clear hown
      go_wp2
      go_ret
      refine ⟨_, rfl, ?_⟩
      rw [HT.out, ← HNN.out]
      exact ⟨HO.out, HH1.out, HF1.out⟩
end Go.Proofs.Ytohnchkoldbpcaa

/- agent: slices.Clone, slices.Insert (rows of pointers). -/
namespace Go.Proofs.Ytohnchkoldbpcaa
open Go Go.RowKit Go.Proofs

/-! ### a block some of whose cells are others -/
def ovr : List Value → Nat → List Value → List Value
  | cs, _, [] => cs
  | cs, o, v :: r => ovr (cs.set o v) (o + 1) r
theorem ovr_len : ∀ (vs cs : List Value) (o : Nat), (ovr cs o vs).length = cs.length
  | [], _, _ => rfl
  | v :: r, cs, o => by rw [ovr, ovr_len r, List.length_set]
theorem ovr_out : ∀ (vs cs : List Value) (o j : Nat), (j < o ∨ o + vs.length ≤ j) → (ovr cs o vs)[j]? = cs[j]?
  | [], _, _, _, _ => rfl
  | v :: r, cs, o, j, h => by
    simp only [List.length_cons] at h
    rw [ovr, ovr_out r _ _ _ (by omega), List.getElem?_set_ne (by omega)]
theorem ovr_in : ∀ (vs cs : List Value) (o j : Nat), j < vs.length → o + j < cs.length → (ovr cs o vs)[o + j]? = vs[j]?
  | v :: r, cs, o, 0, _, h => by
    rw [ovr, ovr_out r _ _ _ (by omega), Nat.add_zero, List.getElem?_set_self (by omega)]
    rfl
  | v :: r, cs, o, j + 1, hj, h => by
    rw [ovr, show o + (j + 1) = o + 1 + j by omega, ovr_in r _ _ _ (by simpa using hj) (by rw [List.length_set]; omega)]
    rfl
section
variable {w w' : World} {g : Nat} {t : TypeId}
theorem Blk.setCells {vs : List Value} : ∀ {w : World} {cs : List Value} {o : Nat}, Blk w g t cs → Blk (w.setCells g o vs) g t (ovr cs o vs) := by
  induction vs with
  | nil => intro w cs o h; exact h
  | cons v r ih => intro w cs o h; exact ih (h.set_ o v)
theorem Fr.setCells {S : Nat → Prop} {a : World} (hg : S g ∨ a.heap.size ≤ g) {vs : List Value} : ∀ {w : World} {o : Nat}, Fr S a w → Fr S a (w.setCells g o vs) := by
  induction vs with
  | nil => intro w o h; exact h
  | cons v r ih => intro w o h; exact ih (h.setCell hg v)
theorem own_blk {w : World} {A : Addr} {n c : Nat} {xs : List Value} {b0 : Nat} (h : w.ownsRow b0 t 1 (.slice (some A) n c) n xs) : ∃ g cur, A = ⟨g, 0, none⟩ ∧ Blk w g t cur ∧ n ≤ c ∧ c ≤ maxLen ∧ cur.length = c ∧ cur.take n = xs ∧ b0 ≤ g := by
  rcases h.2 with ⟨e, _⟩ | ⟨g, cap, cur, e, h1, h2, h3, h4, h5, h6⟩
  · cases e
  · injection e with e1 e2 e3
    injection e1 with e1
    subst e1 e3
    refine ⟨g, cur.toList, rfl, ?_, h3, h4, by simpa using h5, by simpa using h6, h1⟩
    unfold Blk
    rw [h2]
theorem blk_own {w : World} {n c b0 : Nat} {cur : List Value} (h : Blk w g t cur) (hb : b0 ≤ g) (h3 : n ≤ c) (h4 : c ≤ maxLen) (h5 : cur.length = c) : w.ownsRow b0 t 1 (.slice (some ⟨g, 0, none⟩) n c) n (cur.take n) := by
  refine ⟨by rw [List.length_take]; omega, .inr ⟨g, c, cur.toArray, rfl, hb, ?_, h3, h4, by simp [h5], by simp⟩⟩
  unfold Blk at h
  rw [h]
end
/-- what an insert in place leaves -/
theorem ovr_ins {cur xs : List Value} {n k : Nat} {x : Value} (hn : n + 1 ≤ cur.length) (hk : k < n) (hx : cur.take n = xs) :
    (ovr (ovr cur (k + 1) (xs.drop k)) k [x]).take (n + 1) = xs.take k ++ x :: xs.drop k := by
  have hxl : xs.length = n := by rw [← hx, List.length_take]; omega
  apply List.ext_getElem?
  intro j
  by_cases hj : j < n + 1
  · rw [List.getElem?_take_of_lt hj]
    by_cases h1 : j < k
    · rw [ovr_out _ _ _ _ (.inl h1), ovr_out _ _ _ _ (.inl (by omega)), List.getElem?_append_left (by rw [List.length_take]; omega), List.getElem?_take_of_lt h1, ← hx, List.getElem?_take_of_lt (by omega)]
    · have hlt : (xs.take k).length = k := by rw [List.length_take]; omega
      rw [List.getElem?_append_right (by omega), hlt]
      by_cases h2 : j = k
      · subst h2
        have := ovr_in [x] (ovr cur (j + 1) (xs.drop j)) j 0 (by simp) (by rw [ovr_len]; omega)
        rw [show j + 0 = j from rfl] at this
        rw [this, Nat.sub_self]
        rfl
      · obtain ⟨d, rfl⟩ : ∃ d, j = k + 1 + d := ⟨j - (k + 1), by omega⟩
        rw [ovr_out _ _ _ _ (.inr (by simp only [List.length_singleton]; omega)), ovr_in _ _ _ _ (by rw [List.length_drop]; omega) (by omega), show k + 1 + d - k = d + 1 by omega, List.getElem?_cons_succ]
  · rw [List.getElem?_eq_none (by rw [List.length_take, ovr_len, ovr_len]; omega), List.getElem?_eq_none (by rw [List.length_append, List.length_cons, List.length_take, List.length_drop]; omega)]
theorem ptr1_und : Try.prog.underlying 72 = some (.slice 81) := by kernel_rfl
theorem ptr1_info : (Try.prog.info? 81).map (fun i => (i.zero, i.size, i.bytes)) = some (some (.pointer none), 1, 8) := by kernel_rfl
theorem ptrV_one (bs : List Nat) : ∀ v ∈ ptrV bs, v.oneCell' = true := by
  intro v hv
  obtain ⟨b, _, rfl⟩ := List.mem_map.1 hv
  rfl
/-! ### Clone -/
set_option maxRecDepth 100000 in
theorem clone_nil (w : World) : Calls Try.prog 41 #[.slice none 0 0] w fun e w' => e = .returned (.slice none 0 0) ∧ Fr No w w' := by
  have hq := fun W a n c => Lib.run_eql_slice_nil (P := Try.prog) W 72 81 a n c 0 0 ptr1_und
  go_enter Try.func41, Try.ntmps41
  go_wp2
  go_ret
  exact ⟨rfl, by (repeat (first | exact Fr.refl _ _ | assumption | refine Fr.drew ?_ | refine Fr.drewL ?_ | refine Fr.alloc ?_ _))⟩
set_option maxRecDepth 100000 in
theorem clone_some (A : Addr) (n c : Nat) (bs : List Nat) (w : World) (hs : Sl w 81 1 (some A) n (ptrV bs)) (hn : n ≤ 2147483647) :
    Calls Try.prog 41 #[.slice (some A) n c] w fun e w' => ∃ v, e = .returned v ∧ w'.ownsRow w.heap.size 81 1 v n (ptrV bs) ∧ Fr No w w' := by
  obtain ⟨i0, hi0, hz0, hz1, hz2⟩ := info_parts ptr1_info
  have HS := Lib.hid (hs.alloc (Obj.cells #[] 81))
  have HO : Hid ((w.alloc (Obj.cells #[] 81)).ownsRow w.heap.size 81 1 (.slice (some ⟨w.heap.size, 0, none⟩) 0 0) 0 []) := Lib.hid (blk_own (Blk.new w 81 []) (Nat.le_refl _) (Nat.le_refl _) (by simp [maxLen]) rfl)
  clear hs
  have hq := fun W a n c => Lib.run_eql_slice_nil (P := Try.prog) W 72 81 a n c 0 0 ptr1_und
  go_enter Try.func41, Try.ntmps41
  go_wp2_with (at_builtin; go_loud (refine wpList_append_owned' (by rfl) (.tmp 5) (.tmp 6) 72 (by rfl) w.heap.size 81 i0 _ 1 8 ptr1_und hi0 hz0 hz1 hz2 rfl (by omega) (.slice (some ⟨w.heap.size, 0, none⟩) 0 0) 0 [] (by rfl) HO.out (some A) n c 81 (ptrV bs) (by rfl) HS.out (ptrV_one bs) (by simp only [maxLen]; omega) (by omega) (by simp only [World.size_alloc]; omega) ?_); intro v4 w4 ho hg hat)
  rw [Nat.zero_add, List.nil_append] at ho
  go_ret
  exact ⟨_, rfl, ho, ((Fr.refl No w).alloc _).step (Fr.of_grown hg) fun k hk => .inr (by injection hk with hk; subst hk; exact Nat.le_refl _)⟩
end Go.Proofs.Ytohnchkoldbpcaa

/- agent: slices.Insert of one pointer. -/
namespace Go.Proofs.Ytohnchkoldbpcaa
open Go Go.RowKit Go.Proofs

set_option maxRecDepth 100000 in
set_option maxHeartbeats 1000000 in
/-- at the end -/
theorem insert_end (u : Value) (bs : List Nat) (b vb : Nat) (w : World) (hu : w.ownsRow 0 81 1 u bs.length (ptrV bs)) (hn : bs.length ≤ 1000000)
    (hs : Sl w 81 1 (some ⟨vb, 0, none⟩) 1 [.pointer (some ⟨b, 0, none⟩)]) :
    Calls Try.prog 42 #[u, .int .i64 (bs.length : Int), .slice (some ⟨vb, 0, none⟩) 1 1] w fun e w' => ∃ v, e = .returned v ∧ w'.ownsRow 0 81 1 v (bs.length + 1) (ptrV (bs ++ [b])) ∧ Fr (fun k => some k = u.ownBlock) w w' ∧ (v.ownBlock = u.ownBlock ∨ v.ownBlock = some w.heap.size) := by
  obtain ⟨i0, hi0, hz0, hz1, hz2⟩ := info_parts ptr1_info
  obtain ⟨A, c, rfl, hc⟩ := own_shape hu
  have HS := Lib.hid hs
  have HU := Lib.hid hu
  obtain ⟨n, hn'⟩ : ∃ n, n = bs.length := ⟨_, rfl⟩
  rw [← hn'] at hc hn HU ⊢
  have HN := Lib.hid hn'
  have hn0 : (0 : Int) ≤ (n : Int) := by omega
  have hn1 : (n : Int) ≤ (c : Int) := by omega
  have hcc : (c : Int) ≤ 9223372036854775807 := by
    rcases HU.out.2 with ⟨e, _⟩ | ⟨g, cap, cur, e, _, _, _, h4, _⟩
    · injection e with _ _ e; omega
    · injection e with _ _ e; simp only [maxLen] at h4; omega
  have hw1 : IntKind.i64.wrap ((n : Int) - (n : Int)) = 0 := by rw [IntWalk.i64_in _ (by omega)]; omega
  have hsl : ∀ W : World, (Instr.slice 72 (.slice A n c) (some (.int .i64 (n : Int))) none none).run Try.prog W = .ok (.slice (if c = n then A else A.map (·.add (n * 1))) (n - n) (c - n)) W := fun W => by
    rw [run_slice_l (P := Try.prog) (w := W) 72 A n c (by kernel_rfl) .i64 n (by omega) (by omega)]
    have e5 : Try.prog.elem 72 = 81 := by kernel_rfl
    rw [e5]
    simp [sizeOf, typeInfo, hi0, hz1, sliced]
  clear hs hu hn'
  have HPV := Lib.hid (show ptrV (bs ++ [b]) = ptrV bs ++ [.pointer (some ⟨b, 0, none⟩)] by simp)
  rw [HPV.out]
  by_cases hcn : c = n
  · subst hcn
    go_enter Try.func42, Try.ntmps42
    go_wp2_with (at_builtin; go_loud (refine wpList_append_owned' (by rfl) (.tmp 23) (.tmp 24) 72 (by rfl) 0 81 i0 _ 1 8 ptr1_und hi0 hz0 hz1 hz2 rfl (by omega) (.slice A _ _) _ (ptrV bs) (by rfl) HU.out (some ⟨vb, 0, none⟩) 1 1 81 [.pointer (some ⟨b, 0, none⟩)] (by rfl) HS.out (by simp [Value.oneCell']) (by simp only [maxLen]; omega) (by omega) (by omega) ?_); intro v4 w4 ho hg hat)
    go_ret
    exact ⟨_, rfl, ho, Fr.of_grown hg, hat⟩
  · skip
    go_enter Try.func42, Try.ntmps42
    go_wp2_with (at_builtin; go_loud (refine wpList_append_owned' (by rfl) (.tmp 23) (.tmp 24) 72 (by rfl) 0 81 i0 _ 1 8 ptr1_und hi0 hz0 hz1 hz2 rfl (by omega) (.slice A _ _) _ (ptrV bs) (by rfl) HU.out (some ⟨vb, 0, none⟩) 1 1 81 [.pointer (some ⟨b, 0, none⟩)] (by rfl) HS.out (by simp [Value.oneCell']) (by simp only [maxLen]; omega) (by omega) (by omega) ?_); intro v4 w4 ho hg hat)
    go_ret
    exact ⟨_, rfl, ho, Fr.of_grown hg, hat⟩
theorem overlaps_no (vb g k la ca lb cb : Nat) (vs cs : List Value) (w : World) (hV : Blk w vb 81 vs) (hG : Blk w g 81 cs) (hne : vb ≠ g) (hcs : 0 < cs.length) :
    (callFunc 56 #[.slice (some ⟨vb, 0, none⟩) la ca, .slice (some ⟨g, k, none⟩) lb cb]).run Try.prog w = .ok (.value (.bool false)) w := by
  obtain ⟨i0, hi0, hz0, hz1, hz2⟩ := info_parts ptr1_info
  rw [run_callFunc_extern Try.func56 (by kernel_rfl) (by kernel_rfl) (by kernel_rfl) (e := Extern.SlicesOverlaps.overlaps #[72, 72] #[4]) (by kernel_rfl),
    Lib.run_overlaps_apart w 72 4 81 ptr1_und 1 (fun W => by simp [sizeOf, typeInfo, hi0, hz1]) ⟨vb, 0, none⟩ ⟨g, k, none⟩ la ca lb cb hne 81 81 vs.length cs.length
      (by unfold Blk at hV; simp [World.shape?, hV]) (by unfold Blk at hG; simp [World.shape?, hG]) (by omega) (hV.frozen 0) (hV.frozen _)]
  rfl
set_option maxRecDepth 100000 in
set_option maxHeartbeats 4000000 in
/-- in the middle, in place -/
theorem insert_shift (g c k : Nat) (bs : List Nat) (cur : List Value) (b vb : Nat) (w : World) (hG : Blk w g 81 cur) (hcl : cur.length = c) (hc63 : c ≤ maxLen) (hcur : cur.take bs.length = ptrV bs) (hk : k < bs.length) (hroom : bs.length + 1 ≤ c)
    (hV : Blk w vb 81 [.pointer (some ⟨b, 0, none⟩)]) (hvb : vb ≠ g) :
    Calls Try.prog 42 #[.slice (some ⟨g, 0, none⟩) bs.length c, .int .i64 (k : Int), .slice (some ⟨vb, 0, none⟩) 1 1] w fun e w' =>
      e = .returned (.slice (some ⟨g, 0, none⟩) (bs.length + 1) c) ∧ w' = (w.drew.setCells g (k + 1) ((ptrV bs).drop k)).setCells g k [.pointer (some ⟨b, 0, none⟩)] := by
  obtain ⟨i0, hi0, hz0, hzz1, hzz2⟩ := info_parts ptr1_info
  obtain ⟨n, hn⟩ : ∃ n, n = bs.length := ⟨_, rfl⟩
  rw [← hn] at hcur hk hroom ⊢
  have hcsl : (ptrV bs).length = n := by rw [List.length_map, hn]
  have h1c := ptrV_one bs
  obtain ⟨cs, hcs'⟩ : ∃ cs, cs = ptrV bs := ⟨_, rfl⟩
  rw [← hcs'] at hcur hcsl h1c ⊢
  simp only [maxLen] at hc63
  have hcs : ∀ j v, cs[j]? = some v → w.cell? ⟨g, j, none⟩ = some v := fun j v hj => by
    have hjn : j < n := by rw [← hcsl]; exact (List.getElem?_eq_some_iff.1 hj).1
    rw [hG.cell, ← hj, ← hcur, List.getElem?_take_of_lt hjn]
  have hsp : ∀ j, j < n + 1 → (w.cell? ⟨g, j, none⟩).isSome = true := fun j hj => by
    rw [hG.cell, List.getElem?_eq_getElem (by omega)]; rfl
  have hfz := hG.frozens
  have hsz : (Try.prog.info? 81).map (·.size) = some 1 := by rw [hi0]; simp [hzz1]
  have hz2 : ¬ ((k : Int) = (n : Int)) := by omega
  have hov : ∀ lb cb, (callFunc 56 #[.slice (some ⟨vb, 0, none⟩) 1 1, .slice (some ⟨g, k + 1, none⟩) lb cb]).run Try.prog w = .ok (.value (.bool false)) w := fun lb cb => overlaps_no vb g (k + 1) 1 1 lb cb _ _ w hV hG hvb (by omega)
  have hdl : (cs.drop k).length = n - k := by rw [List.length_drop, hcsl]
  have hw1 : IntKind.i64.wrap ((k : Int) + 1) = (k : Int) + 1 := by rw [IntKind.wrap_i64]; omega
  have hb1 : (0 : Int) ≤ (k : Int) + 1 := by omega
  have hin : k ≤ n := by omega
  have htn : ((k : Int) + 1).toNat = k + 1 := by omega
  have hb2 : ¬ (c = k + 1) := by omega
  have hb3 : (k : Int) ≤ (n : Int) + 1 := by omega
  have hb4 : ¬ (c = k) := by omega
  have HVV : ∀ j v, ([.pointer (some ⟨b, 0, none⟩)] : List Value)[j]? = some v → w.cell? ⟨vb, j, none⟩ = some v := fun j v hj => by rw [hV.cell]; exact hj
  have hcp1 : ∀ ty dc sc, (Builtin.copy_ #[72, 72] ty #[.slice (some ⟨g, k + 1, none⟩) (n + 1 - (k + 1)) dc, .slice (some ⟨g, k, none⟩) (n + 1 - k) sc]).run Try.prog w.drew = .ok (goInt (cs.drop k).length) (w.drew.setCells g (k + 1) (cs.drop k)) := fun ty dc sc =>
    run_copy_cells w.drew _ _ ty 81 g (k + 1) (n + 1 - (k + 1)) dc ⟨g, k, none⟩ (n + 1 - k) sc (cs.drop k) ptr1_und hsz (by rw [hdl]; simp only [Nat.min_def]; split <;> omega)
      (fun j v hj => by rw [Addr.add_lit]; exact hcs (k + j) v (by rwa [List.getElem?_drop] at hj))
      (fun j hj => hsp _ (by omega)) (fun j hj => hfz _) (fun v hv => h1c v (List.mem_of_mem_drop hv))
  obtain ⟨W1, hW1⟩ : ∃ W1, W1 = w.drew.setCells g (k + 1) (cs.drop k) := ⟨_, rfl⟩
  have hsp1 : ∀ j, j < n + 1 → (W1.cell? ⟨g, j, none⟩).isSome = true := fun j hj => by
    rw [hW1]
    exact isSome_setCells g (cs.drop k) (k + 1) w.drew (fun i hi => hsp (k + 1 + i) (by rw [hdl] at hi; omega)) j (hsp j hj)
  have hcp2 : ∀ (W : World), (∀ x, W.cell? x = W1.cell? x) → (∀ x, W.frozen? x = W1.frozen? x) → ∀ ty dc, (Builtin.copy_ #[72, 72] ty #[.slice (some ⟨g, k, none⟩) (n + 1 - k) dc, .slice (some ⟨vb, 0, none⟩) 1 1]).run Try.prog W = .ok (goInt 1) (W.setCells g k [.pointer (some ⟨b, 0, none⟩)]) := fun W hWc hWf ty dc =>
    run_copy_cells W _ _ ty 81 g k (n + 1 - k) dc ⟨vb, 0, none⟩ 1 1 [.pointer (some ⟨b, 0, none⟩)] ptr1_und hsz (by simp only [List.length_singleton, Nat.min_def]; split <;> omega)
      (fun j v hj => by
        rw [Addr.add_lit, hWc, hW1, World.cell?_setCells_out g _ _ _ _ (fun h _ => absurd h hvb), Nat.zero_add]
        exact HVV j v hj)
      (fun j hj => by simp only [List.length_singleton] at hj; rw [hWc]; exact hsp1 _ (by omega)) (fun j hj => by rw [hWf, hW1, World.frozen?_setCells]; exact hfz _) (by simp [Value.oneCell'])
  rw [← hW1, Nat.add_sub_add_right] at hcp1
  have hn0 : (0 : Int) ≤ (n : Int) := by omega
  have hk0 : (0 : Int) ≤ (k : Int) := by omega
  have hkn : (k : Int) ≤ (n : Int) := by omega
  have hnc : (n : Int) + 1 ≤ (c : Int) := by omega
  clear hn hcs' hcur hcsl
  go_enter Try.func42, Try.ntmps42
  go_wp2_with (simp only [hov])
  refine wp_region_o [(0, 0), (1, 0), (2, 0), (3, 0), (4, 0), (5, 0), (6, 0), (7, 0), (8, 3)] (by kernel_rfl) (by kernel_rfl) ?_
  repeat (first
    | (apply wpO_pure rfl rfl; (focus (intro w'; go_simp; (try rfl); done)); try simp only [Act.put, List.setIfInBounds_toArray, List.set_cons_zero, List.set_cons_succ])
    | (apply wpO_read rfl rfl; (focus (intro w' hf' hs'; (try simp only [World.size_drew, World.cell?_drew, World.size_alloc, World.size_setCell] at hs'); go_simp; (try rfl); done)); try simp only [Act.put, List.setIfInBounds_toArray, List.set_cons_zero, List.set_cons_succ])
    | (apply wpO_skip (by decide) rfl rfl; try simp only [Act.put, List.setIfInBounds_toArray, List.set_cons_zero, List.set_cons_succ]))
  refine wpO_loud rfl fun K hK => ?_
  refine step_copy_runI rfl (.tmp 73) (.tmp 76) 72 72 rfl _ _ (by rfl) (by rfl) (hcp1 _ _ _) ?_
  refine hK _ _ ?_
  clear hK K
  try simp only [Act.put, List.setIfInBounds_toArray, List.set_cons_zero, List.set_cons_succ]
  repeat (first
    | (apply wpO_pure rfl rfl; (focus (intro w'; go_simp; (try rfl); done)); try simp only [Act.put, List.setIfInBounds_toArray, List.set_cons_zero, List.set_cons_succ])
    | (apply wpO_read rfl rfl; (focus (intro w' hf' hs'; (try simp only [World.size_drew, World.cell?_drew, World.size_alloc, World.size_setCell] at hs'); go_simp; (try rfl); done)); try simp only [Act.put, List.setIfInBounds_toArray, List.set_cons_zero, List.set_cons_succ])
    | (apply wpO_skip (by decide) rfl rfl; try simp only [Act.put, List.setIfInBounds_toArray, List.set_cons_zero, List.set_cons_succ]))
  refine wpO_nil ?_
  go_wp2_with (at_builtin; refine wpList_copy_runI _ rfl _ _ 72 72 rfl _ _ rfl rfl (hcp2 _ (fun _ => rfl) (fun _ => rfl) _ _) ?_)
  go_ret
  exact ⟨rfl, rfl⟩
end Go.Proofs.Ytohnchkoldbpcaa

/- agent: slices.Insert of one pointer, in the middle, no room; the whole contract. -/
namespace Go.Proofs.Ytohnchkoldbpcaa
open Go Go.RowKit Go.Proofs

set_option maxRecDepth 100000 in
set_option maxHeartbeats 4000000 in
theorem insert_grow (g k : Nat) (bs : List Nat) (cur : List Value) (b vb : Nat) (w : World) (hG : Blk w g 81 cur) (hcl : cur.length = bs.length) (hbig : bs.length ≤ 1000000) (hcur : cur = ptrV bs) (hk : k < bs.length)
    (hV : Blk w vb 81 [.pointer (some ⟨b, 0, none⟩)]) :
    Calls Try.prog 42 #[.slice (some ⟨g, 0, none⟩) bs.length bs.length, .int .i64 (k : Int), .slice (some ⟨vb, 0, none⟩) 1 1] w fun e w' =>
      ∃ (G : Nat) (ROW : List Value), e = .returned (.slice (some ⟨w.heap.size, 0, none⟩) (bs.length + 1) G) ∧ bs.length + 1 ≤ G ∧ G ≤ maxLen ∧ ROW.length = G ∧ ROW.take k = (ptrV bs).take k ∧
      Blk w' w.heap.size 81 (ovr (ovr ROW k [.pointer (some ⟨b, 0, none⟩)]) (k + 1) ((ptrV bs).drop k)) ∧ Fr No w w' := by
  obtain ⟨i0, hi0, hz0, hzz1, hzz2⟩ := info_parts ptr1_info
  obtain ⟨n, hn⟩ : ∃ n, n = bs.length := ⟨_, rfl⟩
  rw [← hn] at hbig hk hcl ⊢
  have h1c := ptrV_one bs
  rw [← hcur] at h1c ⊢
  have hcs : ∀ j v, cur[j]? = some v → w.cell? ⟨g, j, none⟩ = some v := fun j v hj => by rw [hG.cell, ← hj]
  have HVV : ∀ j v, ([.pointer (some ⟨b, 0, none⟩)] : List Value)[j]? = some v → w.cell? ⟨vb, j, none⟩ = some v := fun j v hj => by rw [hV.cell]; exact hj
  have hz2 : ¬ ((k : Int) = (n : Int)) := by omega
  have hz3 : (n : Int) < (n : Int) + 1 := by omega
  have hsz : (Try.prog.info? 81).map (·.size) = some 1 := by rw [hi0]; simp [hzz1]
  have hbw : g < w.heap.size := hG.lt
  have hvw : vb < w.heap.size := hV.lt
  have hkk : (n : Int) + 1 - (k : Int) = ((n + 1 - k : Nat) : Int) := by omega
  have hik : k + (n + 1 - k) = n + 1 := by omega
  have hold : (Builtin.firstCells i0.size k (.slice (some ⟨g, 0, none⟩) k n)).run Try.prog w.drew = .ok (cur.take k).toArray w.drew := by
    rw [hzz1]
    exact run_firstCells_some w.drew 1 k ⟨g, 0, none⟩ k n (cur.take k) (by rw [List.length_take]; omega) (fun j v hj => by
      rw [Addr.add_lit, Nat.zero_add]
      rw [List.getElem?_take] at hj
      split at hj
      · exact hcs j v hj
      · cases hj)
  have hrz : ∀ ty, (Builtin.append_ #[72, 3] ty #[.slice (some ⟨g, 0, none⟩) k n, .int .i64 ((n : Int) + 1 - (k : Int))]).run Try.prog w =
      .ok (.slice (some ⟨w.heap.size, 0, none⟩) (n + 1) (grownCap w (n + 1) n 81)) (w.drew.alloc (.cells ((cur.take k).toArray ++ Builtin.zeroCells (Value.pointer none).cells (n + 1 - k) ++ Builtin.zeroCells (Value.pointer none).cells (grownCap w (n + 1) n 81 - (n + 1))) 81)) := fun ty => by
    have h := Lib.run_append_grow_zeros w 72 3 ty 81 i0 _ .i64 .i64 ptr1_und (by kernel_rfl) hi0 hz0 (some ⟨g, 0, none⟩) k n (cur.take k) hold (n + 1 - k) (by omega) (by omega) (by omega) (by omega) (by rw [hzz2]; omega) (by rw [hzz2, hik]; exact growslice_fits (by omega) (by omega))
    rw [hik] at h
    rw [hkk]
    exact h
  obtain ⟨G, hG'⟩ : ∃ G, G = grownCap w (n + 1) n 81 := ⟨_, rfl⟩
  obtain ⟨ROW, hROW⟩ : ∃ ROW : Array Value, ROW = (cur.take k).toArray ++ Builtin.zeroCells (Value.pointer none).cells (n + 1 - k) ++ Builtin.zeroCells (Value.pointer none).cells (G - (n + 1)) := ⟨_, rfl⟩
  rw [← hG'] at hrz
  rw [← hROW] at hrz
  have hGn : n + 1 ≤ G := by rw [hG']; exact grownCap_ge w _ _ _
  have hGM : G ≤ maxLen := by
    have := grownCap_le_maxLen w (n + 1) n 81 (by unfold maxLen; omega)
    rw [← hG'] at this
    exact this
  have hG63 : G ≤ 9223372036854775807 := by have := hGM; simp only [maxLen] at this; omega
  have hRs : ROW.toList.length = G := by
    rw [hROW]
    simp [Builtin.zeroCells, Value.cells]
    omega
  have hRt : ROW.toList.take k = cur.take k := by
    rw [hROW]
    simp only [Array.toList_append, List.append_assoc]
    rw [List.take_append_of_le_length (by rw [List.length_take]; omega), List.take_take, Nat.min_self]
  have hRl : n + 1 ≤ ROW.size := by rw [Array.length_toList] at hRs; omega
  obtain ⟨W1, hW1⟩ : ∃ W1, W1 = w.drew.alloc (.cells ROW 81) := ⟨_, rfl⟩
  rw [← hW1] at hrz
  have hN : ∀ j, j < n + 1 → (W1.cell? ⟨w.heap.size, j, none⟩).isSome = true := fun j hj => by
    rw [hW1, World.cell?_alloc_at (w := w.drew) ROW _ w.heap.size j rfl, Array.getElem?_eq_getElem (by omega)]; rfl
  have hNf : ∀ j, W1.frozen? ⟨w.heap.size, j, none⟩ = false := fun j => by rw [hW1]; exact World.frozen?_alloc_at (w := w.drew) ROW _ w.heap.size j rfl
  have hOb : ∀ j v, w.cell? ⟨g, j, none⟩ = some v → W1.cell? ⟨g, j, none⟩ = some v := fun j v h => by rw [hW1, World.cell?_alloc_past (w := w.drew) _ g j hbw]; exact h
  have hOv : ∀ j v, w.cell? ⟨vb, j, none⟩ = some v → W1.cell? ⟨vb, j, none⟩ = some v := fun j v h => by rw [hW1, World.cell?_alloc_past (w := w.drew) _ vb j hvw]; exact h
  have hcpA : ∀ (W : World), (∀ x, W.cell? x = W1.cell? x) → (∀ x, W.frozen? x = W1.frozen? x) → ∀ ty dc, (Builtin.copy_ #[72, 72] ty #[.slice (some ⟨w.heap.size, k, none⟩) (n + 1 - k) dc, .slice (some ⟨vb, 0, none⟩) 1 1]).run Try.prog W = .ok (goInt 1) (W.setCells w.heap.size k [.pointer (some ⟨b, 0, none⟩)]) := fun W hWc hWf ty dc =>
    run_copy_cells W _ _ ty 81 w.heap.size k (n + 1 - k) dc ⟨vb, 0, none⟩ 1 1 [.pointer (some ⟨b, 0, none⟩)] ptr1_und hsz (by simp only [List.length_singleton, Nat.min_def]; split <;> omega)
      (fun j v hj => by rw [Addr.add_lit, Nat.zero_add, hWc]; exact hOv _ v (HVV j v hj))
      (fun j hj => by simp only [List.length_singleton] at hj; rw [hWc]; exact hN _ (by omega)) (fun j hj => by rw [hWf]; exact hNf _) (by simp [Value.oneCell'])
  have hGi : ¬ (G = k) := by omega
  have hGim : ¬ (G = k + 1) := by omega
  have hci : ¬ (n = k) := by omega
  have hbN : g ≠ w.heap.size := by omega
  have hdl : (cur.drop k).length = n - k := by rw [List.length_drop, hcl]
  have hcpB : ∀ (W : World), (∀ x, W.cell? x = (W1.setCells w.heap.size k [.pointer (some ⟨b, 0, none⟩)]).cell? x) → (∀ x, W.frozen? x = (W1.setCells w.heap.size k [.pointer (some ⟨b, 0, none⟩)]).frozen? x) → ∀ ty dc sc, (Builtin.copy_ #[72, 72] ty #[.slice (some ⟨w.heap.size, k + 1, none⟩) (n - k) dc, .slice (some ⟨g, k, none⟩) (n - k) sc]).run Try.prog W = .ok (goInt (cur.drop k).length) (W.setCells w.heap.size (k + 1) (cur.drop k)) := fun W hWc hWf ty dc sc =>
    run_copy_cells W _ _ ty 81 w.heap.size (k + 1) (n - k) dc ⟨g, k, none⟩ (n - k) sc (cur.drop k) ptr1_und hsz (by rw [hdl]; simp only [Nat.min_def]; split <;> omega)
      (fun j v hj => by
        rw [Addr.add_lit, hWc, World.cell?_setCells_out _ _ _ _ _ (fun h _ => absurd h hbN)]
        exact hOb _ v (hcs (k + j) v (by rwa [List.getElem?_drop] at hj)))
      (fun j hj => by rw [hdl] at hj; rw [hWc]; exact isSome_setCells w.heap.size [.pointer (some ⟨b, 0, none⟩)] k W1 (fun t ht => hN (k + t) (by simp only [List.length_singleton] at ht; omega)) (k + 1 + j) (hN (k + 1 + j) (by omega)))
      (fun j hj => by rw [hWf, World.frozen?_setCells]; exact hNf _) (fun v hv => h1c v (List.mem_of_mem_drop hv))
  have hBR : Blk (((w.alloc (.cells ROW 81)).drew.setCells w.heap.size k [.pointer (some ⟨b, 0, none⟩)]).drew.setCells w.heap.size (k + 1) (cur.drop k)) w.heap.size 81 (ovr (ovr ROW.toList k [.pointer (some ⟨b, 0, none⟩)]) (k + 1) (cur.drop k)) := by
    have h0 : Blk (w.alloc (.cells ROW 81)) w.heap.size 81 ROW.toList := Blk.new w 81 ROW.toList
    exact (Blk.setCells (vs := cur.drop k) (Blk.setCells (vs := [.pointer (some ⟨b, 0, none⟩)]) h0.drew).drew)
  have HBR := Lib.hid hBR
  have HFR : Hid (Fr No w (((w.alloc (.cells ROW 81)).drew.setCells w.heap.size k [.pointer (some ⟨b, 0, none⟩)]).drew.setCells w.heap.size (k + 1) (cur.drop k))) := Lib.hid
    (Fr.setCells (.inr (Nat.le_refl _)) (Fr.setCells (.inr (Nat.le_refl _)) ((Fr.refl No w).alloc _).drew).drew)
  subst hW1
  have hE1 : ∀ x, ((w.alloc (.cells ROW 81)).drew).cell? x = (w.drew.alloc (.cells ROW 81)).cell? x := fun x => rfl
  have hE2 : ∀ x, ((w.alloc (.cells ROW 81)).drew).frozen? x = (w.drew.alloc (.cells ROW 81)).frozen? x := fun x => rfl
  have hF1 : ∀ x, (((w.alloc (.cells ROW 81)).drew.setCells w.heap.size k [.pointer (some ⟨b, 0, none⟩)]).drew).cell? x = ((w.drew.alloc (.cells ROW 81)).setCells w.heap.size k [.pointer (some ⟨b, 0, none⟩)]).cell? x := fun x => rfl
  have hF2 : ∀ x, (((w.alloc (.cells ROW 81)).drew.setCells w.heap.size k [.pointer (some ⟨b, 0, none⟩)]).drew).frozen? x = ((w.drew.alloc (.cells ROW 81)).setCells w.heap.size k [.pointer (some ⟨b, 0, none⟩)]).frozen? x := fun x => rfl
  have hw1 : IntKind.i64.wrap ((k : Int) + 1) = (k : Int) + 1 := by rw [IntKind.wrap_i64]; omega
  have hw2 : IntKind.i64.wrap ((n : Int) + 1) = (n : Int) + 1 := by rw [IntKind.wrap_i64]; omega
  have hw3 : IntKind.i64.wrap ((n : Int) + 1 - (k : Int)) = (n : Int) + 1 - (k : Int) := by rw [IntKind.wrap_i64]; omega
  have hb1 : (0 : Int) ≤ (k : Int) + 1 := by omega
  have hin : k ≤ n := by omega
  have htn : ((k : Int) + 1).toNat = k + 1 := by omega
  have hb3 : (k : Int) ≤ (n : Int) := by omega
  have hn0 : (0 : Int) ≤ (n : Int) := by omega
  have hk0 : (0 : Int) ≤ (k : Int) := by omega
  have HRs := Lib.hid hRs
  have HRt := Lib.hid hRt
  have HGn := Lib.hid hGn
  have HGM := Lib.hid hGM
  clear hkk hik hold hROW hG' hRl hn hcur hBR hRs hRt
  go_enter Try.func42, Try.ntmps42
  go_wp2_with (first
    | (at_builtin; refine Lib.wpList_append_run _ rfl _ _ _ _ rfl _ _ rfl rfl _ _ (hrz _) ?_)
    | (at_builtin; refine wpList_copy_runI _ rfl _ _ 72 72 rfl _ _ rfl rfl (hcpA _ hE1 hE2 _ _) ?_))
  refine wp_region_o [(0, 0), (1, 0), (2, 0), (3, 0), (4, 0), (5, 0), (6, 0), (7, 0), (8, 3)] (by kernel_rfl) (by kernel_rfl) ?_
  repeat (first
    | (apply wpO_pure rfl rfl; (focus (intro w'; go_simp; (try rfl); done)); try simp only [Act.put, List.setIfInBounds_toArray, List.set_cons_zero, List.set_cons_succ])
    | (apply wpO_read rfl rfl; (focus (intro w' hf' hs'; (try simp only [World.size_drew, World.cell?_drew, World.size_alloc, World.size_setCell] at hs'); go_simp; (try rfl); done)); try simp only [Act.put, List.setIfInBounds_toArray, List.set_cons_zero, List.set_cons_succ])
    | (apply wpO_skip (by decide) rfl rfl; try simp only [Act.put, List.setIfInBounds_toArray, List.set_cons_zero, List.set_cons_succ]))
  refine wpO_loud rfl fun K hK => ?_
  refine step_copy_runI rfl (.tmp 50) (.tmp 53) 72 72 rfl _ _ (by rfl) (by rfl) (hcpB _ hF1 hF2 _ _ _) ?_
  refine hK _ _ ?_
  clear hK K
  try simp only [Act.put, List.setIfInBounds_toArray, List.set_cons_zero, List.set_cons_succ]
  repeat (first
    | (apply wpO_pure rfl rfl; (focus (intro w'; go_simp; (try rfl); done)); try simp only [Act.put, List.setIfInBounds_toArray, List.set_cons_zero, List.set_cons_succ])
    | (apply wpO_read rfl rfl; (focus (intro w' hf' hs'; (try simp only [World.size_drew, World.cell?_drew, World.size_alloc, World.size_setCell] at hs'); go_simp; (try rfl); done)); try simp only [Act.put, List.setIfInBounds_toArray, List.set_cons_zero, List.set_cons_succ])
    | (apply wpO_skip (by decide) rfl rfl; try simp only [Act.put, List.setIfInBounds_toArray, List.set_cons_zero, List.set_cons_succ]))
  refine wpO_nil ?_
  go_wp2
  go_ret
  exact ⟨G, ROW.toList, rfl, HGn.out, HGM.out, HRs.out, HRt.out, HBR.out, HFR.out⟩
theorem Sl.blk1 {w : World} {g : Nat} {t : TypeId} {v : Value} (h : Blk w g t [v]) : Sl w t 1 (some ⟨g, 0, none⟩) 1 [v] :=
  ⟨rfl, fun _ => ⟨g, 0, #[v], _, rfl, h, fun j u hj => by rw [Nat.zero_add]; simpa using hj⟩⟩
theorem ovr_new {ROW cs : List Value} {n k : Nat} {x : Value} (hn : n + 1 ≤ ROW.length) (hk : k < n) (hcl : cs.length = n) (ht : ROW.take k = cs.take k) :
    (ovr (ovr ROW k [x]) (k + 1) (cs.drop k)).take (n + 1) = cs.take k ++ x :: cs.drop k := by
  apply List.ext_getElem?
  intro j
  have hlt : (cs.take k).length = k := by rw [List.length_take]; omega
  by_cases hj : j < n + 1
  · rw [List.getElem?_take_of_lt hj]
    by_cases h1 : j < k
    · rw [ovr_out _ _ _ _ (.inl (by omega)), ovr_out _ _ _ _ (.inl h1), List.getElem?_append_left (by omega), ← ht, List.getElem?_take_of_lt h1]
    · rw [List.getElem?_append_right (by omega), hlt]
      by_cases h2 : j = k
      · subst h2
        have := ovr_in [x] ROW j 0 (by simp) (by omega)
        rw [show j + 0 = j from rfl] at this
        rw [ovr_out _ _ _ _ (.inl (by omega)), this, Nat.sub_self]
        rfl
      · obtain ⟨d, rfl⟩ : ∃ d, j = k + 1 + d := ⟨j - (k + 1), by omega⟩
        rw [ovr_in _ _ _ _ (by rw [List.length_drop]; omega) (by rw [ovr_len]; omega), show k + 1 + d - k = d + 1 by omega, List.getElem?_cons_succ]
  · rw [List.getElem?_eq_none (by rw [List.length_take, ovr_len, ovr_len]; omega), List.getElem?_eq_none (by rw [List.length_append, List.length_cons, List.length_take, List.length_drop]; omega)]
theorem ptrV_ins (bs : List Nat) (k b : Nat) : (ptrV bs).take k ++ .pointer (some ⟨b, 0, none⟩) :: (ptrV bs).drop k = ptrV (bs.take k ++ b :: bs.drop k) := by simp
/-- slices.Insert of one pointer -/
theorem insert_any (u : Value) (bs : List Nat) (k b vb : Nat) (w : World) (hu : w.ownsRow 0 81 1 u bs.length (ptrV bs)) (hn : bs.length ≤ 1000000) (hk : k ≤ bs.length)
    (hV : Blk w vb 81 [.pointer (some ⟨b, 0, none⟩)]) (hne : u.ownBlock ≠ some vb) :
    Calls Try.prog 42 #[u, .int .i64 (k : Int), .slice (some ⟨vb, 0, none⟩) 1 1] w fun e w' => ∃ v, e = .returned v ∧ w'.ownsRow 0 81 1 v (bs.length + 1) (ptrV (bs.take k ++ b :: bs.drop k)) ∧ Fr (fun j => some j = u.ownBlock) w w' ∧ (v.ownBlock = u.ownBlock ∨ v.ownBlock = some w.heap.size) := by
  by_cases hkn : k = bs.length
  · subst hkn
    rw [List.take_of_length_le (Nat.le_refl _), List.drop_of_length_le (Nat.le_refl _)]
    exact insert_end u bs b vb w hu hn (Sl.blk1 hV)
  · obtain ⟨A, c, rfl, hc⟩ := own_shape hu
    have hA : A ≠ none := by
      rintro rfl
      rcases hu.2 with ⟨_, e⟩ | ⟨_, _, _, e, _⟩
      · omega
      · injection e with e; cases e
    obtain ⟨a, rfl⟩ := Option.ne_none_iff_exists'.1 hA
    obtain ⟨g, cur, rfl, hG, h1, h2, h3, h4, _⟩ := own_blk hu
    have hgb : (Value.slice (some ⟨g, 0, none⟩) bs.length c).ownBlock = some g := rfl
    by_cases hroom : bs.length + 1 ≤ c
    · refine (insert_shift g c k bs cur b vb w hG h3 h2 h4 (by omega) hroom hV (fun e => hne (by rw [hgb, e]))).mono ?_
      rintro e w' ⟨rfl, rfl⟩
      refine ⟨_, rfl, ?_, ?_, .inl rfl⟩
      · have hb := Blk.setCells (vs := [.pointer (some ⟨b, 0, none⟩)]) (o := k) (Blk.setCells (vs := (ptrV bs).drop k) (o := k + 1) hG.drew)
        have ho := blk_own (n := bs.length + 1) (c := c) hb (Nat.zero_le g) hroom h2 (by rw [ovr_len, ovr_len]; exact h3)
        rw [ovr_ins (by omega) (by omega) h4, ptrV_ins] at ho
        exact ho
      · exact Fr.setCells (S := fun j => some j = some g) (.inl rfl) (Fr.setCells (S := fun j => some j = some g) (.inl rfl) (Fr.refl _ w).drew)
    · obtain rfl : c = bs.length := by omega
      have hcur : cur = ptrV bs := by rw [← h4, List.take_of_length_le (by omega)]
      refine (insert_grow g k bs cur b vb w hG h3 hn hcur (by omega) hV).mono ?_
      rintro e w' ⟨G, ROW, rfl, hG1, hG2, hR1, hR2, hB, hF⟩
      refine ⟨_, rfl, ?_, hF.any _, .inr rfl⟩
      have ho := blk_own (n := bs.length + 1) (c := G) hB (Nat.zero_le _) hG1 hG2 (by rw [ovr_len, ovr_len]; exact hR1)
      rw [ovr_new (by omega) (n := bs.length) (by omega) (by simp) hR2, ptrV_ins] at ho
      exact ho
end Go.Proofs.Ytohnchkoldbpcaa
