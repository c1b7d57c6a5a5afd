/- WireTurned: the plain law. -/
import Derived.Test.YtegogggemmcgdaaBytesW
namespace Go.Proofs.Ytegogggemmcgdaa
open Go Go.RowKit Go.Proofs

theorem gotM_def (l : Bs) : gotM l = if l.length < 41 then (zeroMsg, 10) else if fitB l && rightB (parse l) then (parse l, 0) else (zeroMsg, 11) := by unfold gotM; rfl
theorem at8_set_ne (l : Bs) (i j : Nat) (c : UInt8) (h : i ≠ j) : at8 (l.set i c) j = at8 l j := by
  rw [at8_def, at8_def]
  simp only [List.getD_eq_getElem?_getD]
  rw [List.getElem?_set_ne h]
theorem at8_set_eq (l : Bs) (i : Nat) (c : UInt8) (h : i < l.length) : at8 (l.set i c) i = (c.toNat : Int) := by
  rw [at8_def]
  simp only [List.getD_eq_getElem?_getD]
  rw [List.getElem?_set_self h]
  rfl
theorem at8_of {l : Bs} {i : Nat} {d : UInt8} (h : l[i]? = some d) : at8 l i = (d.toNat : Int) := by
  rw [at8_def, List.getD_eq_getElem?_getD, h]
  rfl
/-- bytes that fit, one of them turned, do not -/
theorem turned_unfit {l : Bs} {i : Nat} {c d : UInt8} (hf : fitB l = true) (h4 : 41 ≤ l.length) (hi : l[i]? = some d) (hne : c ≠ d) : fitB (l.set i c) = false := by
  have hil : i < l.length := (List.getElem?_eq_some_iff.1 hi).1
  have hcd : c.toNat ≠ d.toNat := fun e => hne (UInt8.toNat_inj.1 e)
  have hd := at8_of hi
  rw [fitB_def] at hf
  simp only [Bool.and_eq_true, beq_iff_eq] at hf
  obtain ⟨h0, h36, hs⟩ := hf
  cases hq : fitB (l.set i c)
  · rfl
  · exfalso
    rw [fitB_def] at hq
    simp only [Bool.and_eq_true, beq_iff_eq, List.length_set] at hq
    obtain ⟨q0, q36, qs⟩ := hq
    by_cases e0 : i = 0
    · subst e0
      rw [at8_set_eq l 0 c hil] at q0
      omega
    by_cases e36 : i = 36
    · subst e36
      rw [at8_set_eq l 36 c hil] at q36
      omega
    by_cases hk : i < l.length - 4
    · have e1 : (l.set i c).drop (l.length - 4) = l.drop (l.length - 4) := List.drop_set_of_lt hk
      have e2 : (l.set i c).take (l.length - 4) = (l.take (l.length - 4)).set i c := List.take_set
      have h5 : (l.take (l.length - 4))[i]? = some d := by rw [List.getElem?_take_of_lt hk]; exact hi
      rw [e1, e2, hs] at qs
      exact crc_set h5 hne qs.symm
    · have e2 : (l.set i c).take (l.length - 4) = l.take (l.length - 4) := List.take_set_of_le (by omega)
      have e1 : (l.set i c).drop (l.length - 4) = (l.drop (l.length - 4)).set (i - (l.length - 4)) c := by
        rw [List.drop_set, if_neg hk]
      rw [e1, e2, ← hs] at qs
      have h6 := leN_inj (by simp) qs
      have h7 : ((l.drop (l.length - 4)).set (i - (l.length - 4)) c)[i - (l.length - 4)]? = some c := List.getElem?_set_self (by rw [List.length_drop]; omega)
      have h8 : (l.drop (l.length - 4))[i - (l.length - 4)]? = some d := by
        rw [List.getElem?_drop, show l.length - 4 + (i - (l.length - 4)) = i by omega]
        exact hi
      rw [h6, h8] at h7
      injection h7 with h7
      exact hne h7.symm
theorem turned_got {m : Msg} (h : rightB m = true) (h0 : -9223372036854775808 ≤ m.code) (h1 : m.code ≤ 9223372036854775807) {i : Nat} {c d : UInt8} (hi : (bytesM m)[i]? = some d) (hne : c ≠ d) : gotM ((bytesM m).set i c) = (zeroMsg, 11) := by
  have hlen := bytesM_length m
  rw [gotM_def, if_neg (by rw [List.length_set]; omega), turned_unfit (put_parse m h h0 h1).1 (by omega) hi hne]
  rfl
theorem enc8_set (l : Bs) (i : Nat) (c : UInt8) : enc8 (l.set i c) = (enc8 l).set i (.int .u8 (c.toNat : Int)) := by
  simp [enc8, List.map_set]
end Go.Proofs.Ytegogggemmcgdaa
