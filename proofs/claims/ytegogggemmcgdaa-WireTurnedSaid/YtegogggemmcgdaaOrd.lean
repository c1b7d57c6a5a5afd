/- A region that draws its order, walked once in an order of our own: the words for regions whose loud operations of tag 2 leave all old blocks as they are. -/
import Derived.Test.YtegogggemmcgdaaOrdS
namespace Go.Proofs.Ytegogggemmcgdaa
open Go Go.RowKit

abbrev NoPan := OS.NoPan
/-- the walk, over the numbers -/
def wpO (P : Program) (lo : List Oper) (Q : Exit → Act → World → Prop) (ord : List (Nat × Nat)) (a : Act) (w : World) : Prop := OS.wpO No P lo Q ord a w
theorem wp_region_o {P : Program} {Q : Exit → Act → World → Prop} {id : Nat} {a : Act} {w : World} (ord : List (Nat × Nat)) {lo : List Oper} (hm : P.follows .mixedOrders = true)
    (hB : (OS.okRegion .any lo.toArray ord && ord.all fun x => decide (x.1 < lo.length) && (OS.extTag ord x.1 == decide (x.2 < 3))) = true)
    (h : wpO P lo Q ord a w.drew) : (Code.region id lo.toArray true).wp P Q a w := OS.wp_region_o No ord hm hB h
section
variable {P : Program} {lo : List Oper} {Q : Exit → Act → World → Prop} {a : Act} {w : World} {rest : List (Nat × Nat)} {o : Oper} {i : Nat}
theorem wpO_pure {v : Value} (ho : lo[i]? = some o) (hw : Region.wanted o (yielded lo.toArray a.tmps) = true) (hy : ∀ w', (execOp a.eval o).run P w' = .ok (.value v) w') (h : wpO P lo Q rest (a.put o.dst v) w) : wpO P lo Q ((i, 0) :: rest) a w := OS.wpO_pure ho hw hy h
theorem wpO_read {v : Value} (ho : lo[i]? = some o) (hw : Region.wanted o (yielded lo.toArray a.tmps) = true) (hy : ∀ w', Fr No w w' → (∀ b o, b < w.heap.size → w'.cell? ⟨b, o, none⟩ = w.cell? ⟨b, o, none⟩) → (execOp a.eval o).run P w' = .ok (.value v) w') (h : wpO P lo Q rest (a.put o.dst v) w) : wpO P lo Q ((i, 1) :: rest) a w :=
  OS.wpO_read ho hw (fun w' h1 h2 => hy w' h1 fun b o hb => h2 b o hb fun hf => hf) h
theorem wpO_call {v : Value} (f : Nat) (args : Array Value) (ho : lo[i]? = some o) (hw : Region.wanted o (yielded lo.toArray a.tmps) = true) (hr : ∀ w', (execOp a.eval o).run P w' = .ok (.enter f args) w')
    (hc : ∀ w', Fr No w w' → Calls P f args w' fun e w'' => e = .returned v ∧ w'' = w') (h : wpO P lo Q rest (a.put o.dst v) w) : wpO P lo Q ((i, 1) :: rest) a w := OS.wpO_call f args ho hw hr hc h
theorem wpO_skip {t : Nat} (ht : t < 2) (ho : lo[i]? = some o) (hw : Region.wanted o (yielded lo.toArray a.tmps) = false) (h : wpO P lo Q rest (a.put o.dst undef) w) : wpO P lo Q ((i, t) :: rest) a w := OS.wpO_skip ht ho hw h
theorem wpO_loudE (ho : lo[i]? = some o) (h : ∀ K : Act → World → Prop, (∀ a' w', Fr No w w' ∧ wpO P lo Q rest a' w' → K a' w') → if Region.wanted o (yielded lo.toArray a.tmps) = true then o.wp P a w K (NoPan Q) else K (a.put o.dst undef) w) :
    wpO P lo Q ((i, 2) :: rest) a w := OS.wpO_loudE ho h
theorem wpO_loud (ho : lo[i]? = some o) (h : ∀ K : Act → World → Prop, (∀ a' w', wpO P lo Q rest a' w' → K a' w') → if Region.wanted o (yielded lo.toArray a.tmps) = true then o.wp P a w K (NoPan Q) else K (a.put o.dst undef) w) :
    wpO P lo Q ((i, 3) :: rest) a w := OS.wpO_loud ho h
theorem wpO_nil (h : Q .normal a w) : wpO P lo Q [] a w := OS.wpO_nil h
attribute [irreducible] wpO
end
end Go.Proofs.Ytegogggemmcgdaa
