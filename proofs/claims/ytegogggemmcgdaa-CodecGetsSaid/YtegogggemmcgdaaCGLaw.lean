/- CodecGets: any bytes are an event, and a state, or are refused, as the plain reference says, and written again they are the same (the law returns true). No condition. -/
import Derived.Test.YtegogggemmcgdaaRows
import Derived.Test.YtegogggemmcgdaaCG5
import Derived.WalkKit
import Derived.ProofKit
import Derived.OpenShut
import Derived.ShutString
import Derived.ChangeOld
import Derived.Below
import Derived.SizedLaws
namespace Go.Proofs.Ytegogggemmcgdaa.codecGets
open Go Go.Proofs Go.Proofs.Ytegogggemmcgdaa Go.ChangeShapes Go.WideShapes Go.ChangeAt Go.RowKit
open Go.ChangeMaps (open_string shut_string)
set_option linter.unusedVariables false
theorem own : ownKnob Try.prog.godebug = none := by kernel_rfl
theorem laidOut : laidOutB Try.prog = true := by kernel_rfl
set_option maxRecDepth 100000 in
theorem lifted (os : Os) (started : os.Started) (H : Type) (enc : TypeId × Value → H) :
    ReturnsInHanded {} Try.checked os 7 .any (Rows.codecGetsSpec.pre6 enc Try.prog Try.f7 Rows.codecGetsRow.domain false) (Rows.codecGetsSpec.post enc Try.prog Try.f7 false true false false) := by
  refine returnsInHanded_of_change_sized (C := Try.checked) own started (by kernel_rfl) Try.func7
    (ChangeSpec.witness6 (enc := enc) (C := Try.checked) false ⟨#[], #[.slice none 0 0], []⟩ 8 (by kernel_rfl) (by kernel_rfl) (by kernel_rfl) (by kernel_rfl)) ?_
  intro W base args ds gs before hval0 hW hcnd hsz0 _
  have hsz : (DataW.weightsEach Try.prog (Try.f7.params.toList ++ Rows.codecGetsSpec.plain.varTypes Try.prog) (ds ++ gs)).all (· ≤ reachBytes) = true := hsz0
  have hval : ∀ (j : Nat) t v, Try.f7.params[j]? = some t → args[j]? = some v → Value.okWide Try.prog W .any base t v := hval0
  have hW' := hW
  obtain ⟨p, q, hA0, hV, rfl, hfz, hnd⟩ := hW
  have hA : DataW.TrodAll enc Try.prog W 0 (fun _ => true) true Try.f7.params.toList args.toList ds p := hA0
  rw [Try.params7] at hA hval hsz
  obtain ⟨v1, vs1, d1, ds1, p1, q1, hargs, rfl, rfl, h1, r1⟩ := trodAll_cons hA
  obtain ⟨rfl, rfl, rfl⟩ := trodAll_nil r1
  obtain rfl : args = #[v1] := by cases args; simp_all
  obtain ⟨rfl, rfl⟩ := trodVars_none hV
  have lt1 : ∀ y ∈ p1, y.block < W.heap.size := by obtain ⟨m, hm⟩ := h1; exact DataW.trod_lt m _ _ _ hm
  obtain ⟨A1, c1, l, e1, rfl, hl1, hl2, hy, hd⟩ := rd_bytes h1 (okWide_slice Try.underlying50 (hval 0 _ _ rfl rfl))
  have hlen : l.length ≤ 140737488355328 := by
    rcases hd with h0 | ⟨elems, spare, rfl, he⟩
    · omega
    · have hs := sized_slice hsz (j := 0) rfl rfl Try.underlying50
      have hb : Try.prog.bytesOf 5 = 1 := by kernel_rfl
      rw [hb] at hs
      have hr := reachBytes_lt
      omega
  clear hA0 hval0 hsz0 hsz
  have hbel : l = [] ∨ ∀ a, A1 = some a → a.block < W.heap.size := by
    rcases Nat.eq_zero_or_pos l.length with hz | hz
    · exact .inl (List.eq_nil_of_length_eq_zero hz)
    · refine .inr fun a ha => ?_
      obtain ⟨g, o, hg⟩ := some_of' hy hz
      subst hg
      injection ha with ha
      subst ha
      exact sl_lt hy hz
  refine (codecGets_walk A1 c1 e1 l W ⟨hy, hl1, hbel⟩ hlen).mono fun e W' ⟨he, fr⟩ => ?_
  have bel : Below W.heap.size W W' := fr.below (Nat.le_refl _) (fun _ h => h.elim)
  subst he
  exact ⟨_, rfl, _, _, _, [], _, [], hW', trodAll_mk1 (shut_bool Try.underlying4 _), trodAll_cons_mk (Below.trod laidOut (by kernel_rfl) (of_decide_eq_true (by kernel_rfl)) h1 bel lt1) trodAll_mk0, rfl, bel.frame _, fun h => by cases h⟩
theorem over : Rows.codecGetsRow.holds Try.pinned (OpenSpec.ofChange Rows.codecGetsSpec) :=
  OpenClaim.holds_of_wide 7 Try.f7 rfl rfl rfl rfl rfl rfl rfl ⟨rfl, rfl, rfl, rfl, rfl⟩ rfl rfl rfl rfl rfl (by kernel_rfl) Try.func7 (by kernel_rfl)
    (of_decide_eq_true (by kernel_rfl)) (by unfold Func.isWrapper; first | (rw [if_pos (by decide +kernel)]; kernel_rfl) | (rw [if_neg (by decide +kernel)]; exact ⟨rfl, rfl⟩))
    (fun os started H enc _ => lifted os started H enc)
theorem proved : Rows.CodecGetsSaid := over
#print axioms proved
end Go.Proofs.Ytegogggemmcgdaa.codecGets
namespace Go.Proofs.Ytegogggemmcgdaa
/-- The row, under a short name, for the claim. -/
theorem codecGets_holds : Rows.CodecGetsSaid := codecGets.proved
end Go.Proofs.Ytegogggemmcgdaa
