/- messages as bytes: the plain law. -/
import Derived.Test.YtegogggemmcgdaaGetM
namespace Go.Proofs.Ytegogggemmcgdaa
open Go Go.RowKit Go.Proofs

theorem u8B_at (l : Bs) (i : Nat) : u8B (at8 l i) = l.getD i 0 := by
  apply UInt8.toNat_inj.1
  have h1 := u8B_toNat (at8 l i)
  have h2 := at8_range l i
  have h3 := at8_def l i
  omega
theorem u64N_i64N (u : Nat) (h : u < 18446744073709551616) : u64N (IntKind.i64.wrap (u : Int)) = u := by
  rw [u64N_def, IntKind.wrap_i64]
  omega
theorem i64_u64N (x : Int) (h0 : -9223372036854775808 ≤ x) (h1 : x ≤ 9223372036854775807) : IntKind.i64.wrap ((u64N x : Nat) : Int) = x := by
  rw [u64N_cast, IntKind.wrap_i64]
  omega
theorem num_back (l : Bs) (i : Nat) (h : 4 + i * 8 + 8 ≤ l.length) : leB (u64N (num8 l i)) 8 = (l.drop (4 + i * 8)).take 8 := by
  have hl : ((l.drop (4 + i * 8)).take 8).length = 8 := by rw [List.length_take, List.length_drop]; omega
  have h1 := leN_lt ((l.drop (4 + i * 8)).take 8)
  rw [hl] at h1
  rw [num8_def, u64N_i64N _ (by omega)]
  have := leB_leN ((l.drop (4 + i * 8)).take 8)
  rw [hl] at this
  exact this
theorem take_more (l : Bs) (a b : Nat) : l.take (a + b) = l.take a ++ (l.drop a).take b := List.take_add
theorem take4 (l : Bs) (h : 4 ≤ l.length) : l.take 4 = [l.getD 0 0, l.getD 1 0, l.getD 2 0, l.getD 3 0] := by
  match l, h with
  | a :: b :: c :: d :: r, _ => simp
theorem take1 (l : Bs) (k : Nat) (h : k < l.length) : (l.drop k).take 1 = [l.getD k 0] := by
  rw [List.drop_eq_getElem_cons h, List.getD_eq_getElem?_getD, List.getElem?_eq_getElem h]
  rfl
/-- all but the sum, part by part -/
theorem split_front (l : Bs) (h : 41 ≤ l.length) : l.take (l.length - 4) = [l.getD 0 0, l.getD 1 0, l.getD 2 0, l.getD 3 0] ++ (l.drop 4).take 8 ++ (l.drop 12).take 8 ++ (l.drop 20).take 8 ++ (l.drop 28).take 8 ++ [l.getD 36 0] ++ (l.drop 37).take (l.length - 41) := by
  have e : l.length - 4 = 4 + 8 + 8 + 8 + 8 + 1 + (l.length - 41) := by omega
  rw [e, take_more, take_more, take_more, take_more, take_more, take_more, take4 l (by omega), take1 l _ (by omega)]
theorem front_parse (l : Bs) (h : 41 ≤ l.length) (hfit : 41 + at8 l 36 = (l.length : Int)) : frontM (parse l) = [167, l.getD 1 0, l.getD 2 0, l.getD 3 0] ++ (l.drop 4).take 8 ++ (l.drop 12).take 8 ++ (l.drop 20).take 8 ++ (l.drop 28).take 8 ++ [l.getD 36 0] ++ (l.drop 37).take (l.length - 41) := by
  have n0 := num_back l 0 (by omega)
  have n1 := num_back l 1 (by omega)
  have n2 := num_back l 2 (by omega)
  have n3 := num_back l 3 (by omega)
  have hsz : (strB (txt8 l)).size = l.length - 41 := by rw [strB_size, txt8_def, List.length_take, List.length_drop]; omega
  have h36 : UInt8.ofNat (l.length - 41) = l.getD 36 0 := by
    apply UInt8.toNat_inj.1
    have h1 := at8_def l 36
    have h2 := (l.getD 36 0).toNat_lt
    rw [UInt8.toNat_ofNat']
    omega
  have hd : (strB (txt8 l)).data.toList = txt8 l := by simp [strB]
  rw [frontM_nums, headM_def, textM_eq, parse_def]
  simp only [u8B_at, n0, n1, n2, n3, hsz, h36, hd]
  rw [txt8_def]
  simp only [List.append_assoc, List.cons_append, List.nil_append]
/-- the sum's bytes fit, and the head: then, and only then, a message put again is the same -/
theorem bytes_parse (l : Bs) (h : 41 ≤ l.length) (hfit : 41 + at8 l 36 = (l.length : Int)) : (bytesM (parse l) == l) = fitB l := by
  have hF := split_front l h
  have hP := front_parse l h hfit
  have hFT : l.take (l.length - 4) ++ l.drop (l.length - 4) = l := List.take_append_drop _ _
  have hT : (l.drop (l.length - 4)).length = 4 := by rw [List.length_drop]; omega
  have h0 := at8_def l 0
  have h00 := (l.getD 0 0).toNat_lt
  rw [Bool.eq_iff_iff, fitB_def]
  simp only [beq_iff_eq, Bool.and_eq_true]
  constructor
  · intro he
    rw [bytesM_eq] at he
    have hl1 : (frontM (parse l)).length = (l.take (l.length - 4)).length := by
      rw [hP, hF]
      simp
    have hsp := List.append_inj (he.trans hFT.symm) hl1
    have hz : l.getD 0 0 = 167 := by
      have := hsp.1
      rw [hP, hF] at this
      simp only [List.append_assoc, List.cons_append, List.nil_append, List.cons.injEq] at this
      exact this.1.symm
    refine ⟨?_, hfit, ?_⟩
    · rw [h0, hz]; rfl
    · rw [← hsp.2, leN_leB, hsp.1]
      have := crc_lt (l.take (l.length - 4))
      omega
  · rintro ⟨hz, _, hs⟩
    have hz' : l.getD 0 0 = 167 := by
      apply UInt8.toNat_inj.1
      have : (167 : UInt8).toNat = 167 := rfl
      omega
    have hFP : frontM (parse l) = l.take (l.length - 4) := by rw [hP, hF, hz']
    rw [bytesM_eq, hFP, ← hs]
    have := leB_leN (l.drop (l.length - 4))
    rw [hT] at this
    rw [this, hFT]
/-- a message that is put is got as it was -/
theorem right_nums {m : Msg} (h : rightB m = true) : (0 ≤ m.n ∧ m.n ≤ 4611686018427387904) ∧ (0 ≤ m.low ∧ m.low ≤ 4611686018427387904) ∧ (0 ≤ m.mins ∧ m.mins ≤ 4611686018427387904) ∧ (0 ≤ m.frm ∧ m.frm < 8) ∧ (0 ≤ m.to_ ∧ m.to_ < 8) ∧ (1 ≤ m.kind ∧ m.kind ≤ 9) ∧ m.text.size ≤ 20 := by
  simp only [rightB, inR, linkB, Bool.and_eq_true, decide_eq_true_eq, bne_iff_ne] at h
  omega
theorem getD_mid (a b c : Bs) (i j : Nat) (hi : i = a.length + j) (hj : j < b.length) : (a ++ b ++ c).getD i 0 = b.getD j 0 := by
  subst hi
  simp only [List.getD_eq_getElem?_getD]
  rw [List.append_assoc, List.getElem?_append_right (by omega), Nat.add_sub_cancel_left, List.getElem?_append_left hj]
theorem drop_mid (a b c : Bs) (n k : Nat) (hn : n = a.length) (hk : k = b.length) : ((a ++ b ++ c).drop n).take k = b := by
  subst hn hk
  rw [List.append_assoc, List.drop_left, List.take_left]
theorem put_parse (m : Msg) (h : rightB m = true) (hc0 : -9223372036854775808 ≤ m.code) (hc1 : m.code ≤ 9223372036854775807) : fitB (bytesM m) = true ∧ parse (bytesM m) = m := by
  obtain ⟨⟨n0, n1⟩, ⟨l0, l1⟩, ⟨s0, s1⟩, ⟨f0, f1⟩, ⟨t0, t1⟩, ⟨k0, k1⟩, hts⟩ := right_nums h
  have hlen := bytesM_length m
  have hfl := frontM_length m
  have hdl : m.text.data.toList.length = m.text.size := Array.length_toList
  have hB : bytesM m = [167, u8B m.frm, u8B m.to_, u8B m.kind] ++ leB (u64N m.n) 8 ++ leB (u64N m.low) 8 ++ leB (u64N m.mins) 8 ++ leB (u64N m.code) 8 ++ [UInt8.ofNat m.text.size] ++ m.text.data.toList ++ leB (crc (frontM m)) 4 := by
    rw [bytesM_eq, frontM_nums, headM_def, textM_eq]
    simp only [List.append_assoc, List.cons_append, List.nil_append]
  have ub : ∀ x : Int, 0 ≤ x → x < 256 → ((u8B x).toNat : Int) = x := fun x h0 h1 => by rw [u8B_toNat]; omega
  have g0 : (bytesM m).getD 0 0 = 167 := by rw [hB]; rfl
  have g1 : (bytesM m).getD 1 0 = u8B m.frm := by rw [hB]; rfl
  have g2 : (bytesM m).getD 2 0 = u8B m.to_ := by rw [hB]; rfl
  have g3 : (bytesM m).getD 3 0 = u8B m.kind := by rw [hB]; rfl
  have g36 : (bytesM m).getD 36 0 = UInt8.ofNat m.text.size := by
    rw [hB, List.append_assoc _ m.text.data.toList]
    exact getD_mid _ [UInt8.ofNat m.text.size] _ 36 0 (by simp [leB_length]) (by simp)
  have d0 : ((bytesM m).drop 4).take 8 = leB (u64N m.n) 8 := by
    rw [hB]
    simp only [List.append_assoc]
    rw [← List.append_assoc]
    exact drop_mid _ _ _ 4 8 (by simp) (by rw [leB_length])
  have d1 : ((bytesM m).drop 12).take 8 = leB (u64N m.low) 8 := by
    rw [hB]
    simp only [List.append_assoc]
    rw [← List.append_assoc, ← List.append_assoc]
    exact drop_mid _ _ _ 12 8 (by simp [leB_length]) (by rw [leB_length])
  have d2 : ((bytesM m).drop 20).take 8 = leB (u64N m.mins) 8 := by
    rw [hB]
    simp only [List.append_assoc]
    rw [← List.append_assoc, ← List.append_assoc, ← List.append_assoc]
    exact drop_mid _ _ _ 20 8 (by simp [leB_length]) (by rw [leB_length])
  have d3 : ((bytesM m).drop 28).take 8 = leB (u64N m.code) 8 := by
    rw [hB]
    simp only [List.append_assoc]
    rw [← List.append_assoc, ← List.append_assoc, ← List.append_assoc, ← List.append_assoc]
    exact drop_mid _ _ _ 28 8 (by simp [leB_length]) (by rw [leB_length])
  have dt : ((bytesM m).drop 37).take (m.text.size) = m.text.data.toList := by
    rw [hB]
    exact drop_mid _ _ _ 37 _ (by simp [leB_length]) hdl.symm
  have num : ∀ (i : Nat) (x : Int), ((bytesM m).drop (4 + i * 8)).take 8 = leB (u64N x) 8 → -9223372036854775808 ≤ x → x ≤ 9223372036854775807 → num8 (bytesM m) i = x := fun i x hd h0 h1 => by
    have hu := u64N_lt x
    rw [num8_def, hd, leN_leB, Nat.mod_eq_of_lt (by omega)]
    exact i64_u64N x h0 h1
  have hp : parse (bytesM m) = m := by
    rw [parse_def, num 0 m.n d0 (by omega) (by omega), num 1 m.low d1 (by omega) (by omega), num 2 m.mins d2 (by omega) (by omega), num 3 m.code d3 hc0 hc1, at8_def, at8_def, at8_def, g1, g2, g3,
      ub m.frm f0 (by omega), ub m.to_ t0 (by omega), ub m.kind (by omega) (by omega), txt8_def, hlen, show 41 + m.text.size - 41 = m.text.size by omega, dt, strB_data]
  refine ⟨?_, hp⟩
  have hfit : 41 + at8 (bytesM m) 36 = ((bytesM m).length : Int) := by
    rw [at8_def, g36, hlen]
    have : (UInt8.ofNat m.text.size).toNat = m.text.size % 256 := UInt8.toNat_ofNat'
    omega
  rw [← bytes_parse (bytesM m) (by omega) hfit, hp]
  simp
end Go.Proofs.Ytegogggemmcgdaa
