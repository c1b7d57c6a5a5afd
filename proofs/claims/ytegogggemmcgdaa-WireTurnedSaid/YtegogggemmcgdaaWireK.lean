/- wire: links as keys. -/
import Derived.Test.YtegogggemmcgdaaWireA
namespace Go.Proofs.Ytegogggemmcgdaa
open Go Go.RowKit Go.Proofs

abbrev encLink (l : Int × Int) : Value := .agg #[.int .i64 l.1, .int .i64 l.2]

theorem link_info : (Try.prog.info? 3).map (fun i => (i.zero, i.size, i.bytes)) = some (some (.int .i64 0), 1, 8) := by kernel_rfl
theorem link_und : Try.prog.underlying 154 = some (.array 2 3) := by kernel_rfl
theorem int_und : Try.prog.underlying 3 = some (.int .i64) := by kernel_rfl

theorem link_check (em : Bool) (d : Nat) (a b : Int) (w : World) : (Instr.checkKey em (d + 2) 154 (encLink (a, b))).run Try.prog w = .ok () w := by
  obtain ⟨i0, hi0, hz0, hz1, hz2⟩ := info_parts link_info
  simp [Instr.checkKey, run_underlying link_und, run_underlying int_und, Std.Legacy.Range.forIn_eq_forIn_range', Std.Legacy.Range.size, List.range', part, isAgg, sizeOf, typeInfo, hi0, hz1]
theorem link_equal (d : Nat) (a b c e : Int) (w : World) : (Op.equalIn (d + 2) 154 (encLink (a, b)) (encLink (c, e))).run Try.prog w = .ok (decide ((a, b) = (c, e))) w := by
  obtain ⟨i0, hi0, hz0, hz1, hz2⟩ := info_parts link_info
  simp [Op.equalIn, run_underlying link_und, run_underlying int_und, Std.Legacy.Range.forIn_eq_forIn_range', Std.Legacy.Range.size, List.range', part, isAgg, sizeOf, typeInfo, hi0, hz1]
  by_cases h1 : a = c <;> by_cases h2 : b = e <;> simp [h1, h2]
theorem link_law : KeyLaw Try.prog 154 encLink :=
  KeyLaw.of_asking link_und (fun em k w => link_check em 9998 k.1 k.2 w) (fun _ _ => rfl) (fun k k' w => link_equal 9998 k.1 k.2 k'.1 k'.2 w) (fun k => by simp [Instr.sameBits])
end Go.Proofs.Ytegogggemmcgdaa
