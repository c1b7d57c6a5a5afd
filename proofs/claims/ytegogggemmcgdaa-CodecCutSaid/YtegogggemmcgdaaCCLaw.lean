/- CodecCut: bytes of an event, or of a state, that are cut are none, and neither is taken for the other (the law returns true). No condition. -/
import Derived.Test.YtegogggemmcgdaaRows
import Derived.Test.YtegogggemmcgdaaCC5
import Derived.WalkKit
import Derived.ProofKit
import Derived.OpenShut
import Derived.ShutString
import Derived.ChangeOld
import Derived.Below
import Derived.SizedLaws
namespace Go.Proofs.Ytegogggemmcgdaa.codecCut
open Go Go.Proofs Go.Proofs.Ytegogggemmcgdaa Go.ChangeShapes Go.WideShapes Go.ChangeAt Go.RowKit
open Go.ChangeMaps (open_string shut_string)
set_option linter.unusedVariables false
theorem own : ownKnob Try.prog.godebug = none := by kernel_rfl
theorem laidOut : laidOutB Try.prog = true := by kernel_rfl
set_option maxRecDepth 100000 in
theorem lifted (os : Os) (started : os.Started) (H : Type) (enc : TypeId × Value → H) :
    ReturnsInHanded {} Try.checked os 8 .any (Rows.codecCutSpec.pre6 enc Try.prog Try.f8 Rows.codecCutRow.domain false) (Rows.codecCutSpec.post enc Try.prog Try.f8 false true false false) := by
  refine returnsInHanded_of_change_sized (C := Try.checked) own started (by kernel_rfl) Try.func8
    (ChangeSpec.witness6 (enc := enc) (C := Try.checked) false ⟨#[], #[.agg #[.int .i64 0, .int .i64 0, .int .i64 0, .string ByteArray.empty, .slice none 0 0], .string ByteArray.empty, .agg #[.int .i64 0, .int .i64 0, .int .i64 0, .int .i64 0, .slice none 0 0, .slice none 0 0, .slice none 0 0, .slice none 0 0], .int .i64 0], []⟩ 8 (by kernel_rfl) (by kernel_rfl) (by kernel_rfl) (by kernel_rfl)) ?_
  intro W base args ds gs before hval0 hW hcnd hsz0 _
  have hsz : (DataW.weightsEach Try.prog (Try.f8.params.toList ++ Rows.codecCutSpec.plain.varTypes Try.prog) (ds ++ gs)).all (· ≤ reachBytes) = true := hsz0
  have hval : ∀ (j : Nat) t v, Try.f8.params[j]? = some t → args[j]? = some v → Value.okWide Try.prog W .any base t v := hval0
  have hW' := hW
  obtain ⟨p, q, hA0, hV, rfl, hfz, hnd⟩ := hW
  have hA : DataW.TrodAll enc Try.prog W 0 (fun _ => true) true Try.f8.params.toList args.toList ds p := hA0
  rw [Try.params8] at hA hval hsz
  obtain ⟨v0, vs0, d0, ds0, p0, q0, hargs, rfl, rfl, h0, r0⟩ := trodAll_cons hA
  obtain ⟨v1, vs1, d1, ds1, p1, q1, rfl, rfl, rfl, h1, r1⟩ := trodAll_cons r0
  obtain ⟨v2, vs2, d2, ds2, p2, q2, rfl, rfl, rfl, h2, r2⟩ := trodAll_cons r1
  obtain ⟨v3, vs3, d3, ds3, p3, q3, rfl, rfl, rfl, h3, r3⟩ := trodAll_cons r2
  obtain ⟨rfl, rfl, rfl⟩ := trodAll_nil r3
  obtain rfl : args = #[v0, v1, v2, v3] := by cases args; simp_all
  obtain ⟨rfl, rfl⟩ := trodVars_none hV
  obtain ⟨cs, rfl, hcs⟩ := okWide_struct ev_und (hval 0 _ _ rfl rfl)
  obtain ⟨ev, A, c, et, hx, hev, hk, hm, hxs⟩ := rd_event (RdW.arg (j := 0) hsz rfl rfl h0)
  have hx' : cs.toList = ev.cells A c := hx
  obtain rfl : cs = (ev.cells A c).toArray := by rw [← hx']
  have lt0 : ∀ y ∈ p0, y.block < W.heap.size := by obtain ⟨m, hm⟩ := h0; exact DataW.trod_lt m _ _ _ hm
  obtain ⟨ct, rfl, hct⟩ := okWide_struct rs_und (hval 2 _ _ rfl rfl)
  have hs0 := RdW.arg (j := 1) hsz rfl rfl h1
  obtain ⟨x, A0, A1, A2, A3, c0, c1, c2, c3, e0, e1, e2, e3, hy, hi, hS, hL, n1, n2, n3⟩ := rd_state (RdW.arg (j := 2) hsz rfl rfl h2)
  have hy' : ct.toList = x.cells A0 A1 A2 A3 c0 c1 c2 c3 := hy
  obtain rfl : ct = (x.cells A0 A1 A2 A3 c0 c1 c2 c3).toArray := by rw [← hy']
  obtain ⟨s, rfl, rfl, rfl, hsl⟩ := open_string str_und (hval 1 _ _ rfl rfl) h1
  obtain ⟨s', hs', hsz'⟩ := rd_txt hs0
  have hs2 : s.size ≤ 140737488355328 := by
    injection hs' with hs'
    rw [hs']
    exact hsz'
  have lt2 : ∀ y ∈ p2, y.block < W.heap.size := by obtain ⟨m, hm⟩ := h2; exact DataW.trod_lt m _ _ _ hm
  obtain ⟨a3, rfl, rfl, rfl, w3⟩ := open_int i3_und (hval 3 _ _ rfl rfl) h3
  clear hA0 hval0 hsz0 hsz
  refine (codecCut_walk ev A c et s x A0 A1 A2 A3 c0 c1 c2 c3 e0 e1 e2 e3 a3 W hev hk hm hxs hi hS hL (StOk.of s x hL hs2 n1 n2 n3) (wf_i64 w3)).mono fun e W' ⟨he, fr⟩ => ?_
  have bel : Below W.heap.size W W' := fr.below (Nat.le_refl _) (fun _ h => h.elim)
  subst he
  exact ⟨_, rfl, _, _, _, [], _, [], hW', trodAll_mk1 (shut_bool Try.underlying4 _), trodAll_cons_mk (Below.trod laidOut (by kernel_rfl) (of_decide_eq_true (by kernel_rfl)) h0 bel lt0) (trodAll_cons_mk (shut_string str_und hsl) (trodAll_cons_mk (Below.trod laidOut (by kernel_rfl) (of_decide_eq_true (by kernel_rfl)) h2 bel lt2) (trodAll_cons_mk (shut_int i3_und w3) trodAll_mk0))), rfl, bel.frame _, fun h => by cases h⟩
theorem over : Rows.codecCutRow.holds Try.pinned (OpenSpec.ofChange Rows.codecCutSpec) :=
  OpenClaim.holds_of_wide 8 Try.f8 rfl rfl rfl rfl rfl rfl rfl ⟨rfl, rfl, rfl, rfl, rfl⟩ rfl rfl rfl rfl rfl (by kernel_rfl) Try.func8 (by kernel_rfl)
    (of_decide_eq_true (by kernel_rfl)) (by unfold Func.isWrapper; first | (rw [if_pos (by decide +kernel)]; kernel_rfl) | (rw [if_neg (by decide +kernel)]; exact ⟨rfl, rfl⟩))
    (fun os started H enc _ => lifted os started H enc)
theorem proved : Rows.CodecCutSaid := over
#print axioms proved
end Go.Proofs.Ytegogggemmcgdaa.codecCut
namespace Go.Proofs.Ytegogggemmcgdaa
/-- The row, under a short name, for the claim. -/
theorem codecCut_holds : Rows.CodecCutSaid := codecCut.proved
end Go.Proofs.Ytegogggemmcgdaa
