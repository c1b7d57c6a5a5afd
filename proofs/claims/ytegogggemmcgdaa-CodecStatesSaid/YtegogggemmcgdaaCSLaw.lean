/- CodecStates: any source and state are bytes, or can not be, as the plain reference says, and are read as they were (the law returns true). No condition. -/
import Derived.Test.YtegogggemmcgdaaRows
import Derived.Test.YtegogggemmcgdaaCS4
import Derived.WalkKit
import Derived.ProofKit
import Derived.OpenShut
import Derived.ShutString
import Derived.ChangeOld
import Derived.Below
import Derived.SizedLaws
namespace Go.Proofs.Ytegogggemmcgdaa.codecStates
open Go Go.Proofs Go.Proofs.Ytegogggemmcgdaa Go.ChangeShapes Go.WideShapes Go.ChangeAt Go.RowKit
open Go.ChangeMaps (open_string shut_string)
set_option linter.unusedVariables false
theorem own : ownKnob Try.prog.godebug = none := by kernel_rfl
theorem laidOut : laidOutB Try.prog = true := by kernel_rfl
set_option maxRecDepth 100000 in
theorem lifted (os : Os) (started : os.Started) (H : Type) (enc : TypeId × Value → H) :
    ReturnsInHanded {} Try.checked os 6 .any (Rows.codecStatesSpec.pre6 enc Try.prog Try.f6 Rows.codecStatesRow.domain false) (Rows.codecStatesSpec.post enc Try.prog Try.f6 false true false false) := by
  refine returnsInHanded_of_change_sized (C := Try.checked) own started (by kernel_rfl) Try.func6
    (ChangeSpec.witness6 (enc := enc) (C := Try.checked) false ⟨#[], #[.string ByteArray.empty, .agg #[.int .i64 0, .int .i64 0, .int .i64 0, .int .i64 0, .slice none 0 0, .slice none 0 0, .slice none 0 0, .slice none 0 0]], []⟩ 8 (by kernel_rfl) (by kernel_rfl) (by kernel_rfl) (by kernel_rfl)) ?_
  intro W base args ds gs before hval0 hW hcnd hsz0 _
  have hsz : (DataW.weightsEach Try.prog (Try.f6.params.toList ++ Rows.codecStatesSpec.plain.varTypes Try.prog) (ds ++ gs)).all (· ≤ reachBytes) = true := hsz0
  have hval : ∀ (j : Nat) t v, Try.f6.params[j]? = some t → args[j]? = some v → Value.okWide Try.prog W .any base t v := hval0
  have hW' := hW
  obtain ⟨p, q, hA0, hV, rfl, hfz, hnd⟩ := hW
  have hA : DataW.TrodAll enc Try.prog W 0 (fun _ => true) true Try.f6.params.toList args.toList ds p := hA0
  rw [Try.params6] at hA hval hsz
  obtain ⟨v0, vs0, d0, ds0, p0, q0, hargs, rfl, rfl, h0, r0⟩ := trodAll_cons hA
  obtain ⟨v1, vs1, d1, ds1, p1, q1, rfl, rfl, rfl, h1, r1⟩ := trodAll_cons r0
  obtain ⟨rfl, rfl, rfl⟩ := trodAll_nil r1
  obtain rfl : args = #[v0, v1] := by cases args; simp_all
  obtain ⟨rfl, rfl⟩ := trodVars_none hV
  obtain ⟨cs, rfl, hcs⟩ := okWide_struct rs_und (hval 1 _ _ rfl rfl)
  have hs0 := RdW.arg (j := 0) hsz rfl rfl h0
  obtain ⟨x, A0, A1, A2, A3, c0, c1, c2, c3, e0, e1, e2, e3, hx, hi, hS, hL, n1, n2, n3⟩ := rd_state (RdW.arg (j := 1) hsz rfl rfl h1)
  have hx' : cs.toList = x.cells A0 A1 A2 A3 c0 c1 c2 c3 := hx
  obtain rfl : cs = (x.cells A0 A1 A2 A3 c0 c1 c2 c3).toArray := by rw [← hx']
  obtain ⟨s, rfl, rfl, rfl, hsl⟩ := open_string str_und (hval 0 _ _ rfl rfl) h0
  obtain ⟨s', hs', hsz'⟩ := rd_txt hs0
  have hs2 : s.size ≤ 140737488355328 := by
    injection hs' with hs'
    rw [hs']
    exact hsz'
  have lt1 : ∀ y ∈ p1, y.block < W.heap.size := by obtain ⟨m, hm⟩ := h1; exact DataW.trod_lt m _ _ _ hm
  clear hA0 hval0 hsz0 hsz
  refine (codecStates_walk s x A0 A1 A2 A3 c0 c1 c2 c3 e0 e1 e2 e3 W hi hS hL (StOk.of s x hL hs2 n1 n2 n3)).mono fun e W' ⟨he, fr⟩ => ?_
  have bel : Below W.heap.size W W' := fr.below (Nat.le_refl _) (fun _ h => h.elim)
  subst he
  exact ⟨_, rfl, _, _, _, [], _, [], hW', trodAll_mk1 (shut_bool Try.underlying4 _), trodAll_cons_mk (shut_string str_und hsl) (trodAll_cons_mk (Below.trod laidOut (by kernel_rfl) (of_decide_eq_true (by kernel_rfl)) h1 bel lt1) trodAll_mk0), rfl, bel.frame _, fun h => by cases h⟩
theorem over : Rows.codecStatesRow.holds Try.pinned (OpenSpec.ofChange Rows.codecStatesSpec) :=
  OpenClaim.holds_of_wide 6 Try.f6 rfl rfl rfl rfl rfl rfl rfl ⟨rfl, rfl, rfl, rfl, rfl⟩ rfl rfl rfl rfl rfl (by kernel_rfl) Try.func6 (by kernel_rfl)
    (of_decide_eq_true (by kernel_rfl)) (by unfold Func.isWrapper; first | (rw [if_pos (by decide +kernel)]; kernel_rfl) | (rw [if_neg (by decide +kernel)]; exact ⟨rfl, rfl⟩))
    (fun os started H enc _ => lifted os started H enc)
theorem proved : Rows.CodecStatesSaid := over
#print axioms proved
end Go.Proofs.Ytegogggemmcgdaa.codecStates
namespace Go.Proofs.Ytegogggemmcgdaa
/-- The row, under a short name, for the claim. -/
theorem codecStates_holds : Rows.CodecStatesSaid := codecStates.proved
end Go.Proofs.Ytegogggemmcgdaa
