import Derived.Test.YtohnchkoldbpcaaQC2
set_option linter.unusedVariables false
set_option linter.unusedSimpArgs false
/- agent, the plain law: whatever is lost, comes twice, or comes late, each run is begun once, and reported once. -/
namespace Go.Proofs.Ytohnchkoldbpcaa
open Go Go.RowKit

structure PlayS where
  h : HubS
  a : AgS
  n : List Msg
  clock : Int
  run : Int
  ends : List Int
  seen : List Int
  bad : Bool
def sendsL : List Msg → List Msg → List Msg
  | [], n => n
  | m :: ms, n => sendsL ms (sendL m n)
/-- a report at the play -/
def repS (p : PlayS) (r : Int × Int) : PlayS :=
  if r.1 < 1 ∨ (p.seen.length : Int) < r.1 then { p with bad := true }
  else { p with seen := p.seen.set (r.1 - 1).toNat (p.seen.getD (r.1 - 1).toNat 0 + 1),
                bad := p.bad || (r.2 != r.1.tmod 3) || decide (p.ends.getD (r.1 - 1).toNat 0 < 0) || decide (p.clock < p.ends.getD (r.1 - 1).toNat 0) }
def repsS : List (Int × Int) → PlayS → PlayS
  | [], p => p
  | r :: rs, p => repsS rs (repS p r)
/-- a message m comes to the agent; it is under way no more -/
def comeA (p : PlayS) (m : Msg) (n : List Msg) : PlayS :=
  let t := p.a.take m p.clock
  if p.a.begun < t.1.begun ∧ 1 ≤ m.n ∧ m.n ≤ p.ends.length then
    { p with a := t.1, n := sendsL t.2.1 n, bad := p.bad || decide (0 ≤ p.ends.getD (m.n - 1).toNat 0), ends := p.ends.set (m.n - 1).toNat (p.clock + m.mins) }
  else { p with a := t.1, n := sendsL t.2.1 n }
def comeH (p : PlayS) (m : Msg) (n : List Msg) : PlayS :=
  let t := p.h.take m
  let q := repsS t.2.2.1 { p with h := t.1 }
  { q with n := sendsL t.2.1 n }
def comeS (p : PlayS) (i : Nat) : PlayS :=
  match p.n[i]? with
  | none => p
  | some m => if m.to_ = 1 then comeA p m (p.n.eraseIdx i) else comeH p m (p.n.eraseIdx i)
def tickS (p : PlayS) : PlayS :=
  let c := p.clock + 1
  { p with clock := c, h := (p.h.tick c).1, a := (p.a.tick c).1, n := sendsL (p.a.tick c).2 (sendsL (p.h.tick c).2 p.n) }
def ticksS : Nat → PlayS → PlayS
  | 0, p => p
  | k + 1, p => ticksS k (tickS p)
def jobA : ByteArray := ⟨#[97]⟩
def newR (p : PlayS) (mins : Int) : Req := ⟨p.run + 1, 0, mins, (p.run + 1).tmod 3, jobA, p.clock⟩
def askS (p : PlayS) (mins : Int) : PlayS :=
  if p.h.askE (p.run + 1) mins jobA p.clock = 0 then
    { p with h := p.h.add (newR p mins), run := p.run + 1, ends := p.ends ++ [-1], seen := p.seen ++ [0], n := sendsL [startM (p.h.add (newR p mins)) (newR p mins)] p.n }
  else p
structure AStep where
  kind : Int
  n : Int
def stepS (p : PlayS) (s : AStep) : PlayS :=
  if s.kind = 0 ∨ s.kind = 1 then askS p (countI s.n 12)
  else if 2 ≤ s.kind ∧ s.kind ≤ 5 then (if 0 < p.n.length then comeS p (countI s.n p.n.length).toNat else p)
  else if s.kind = 6 then (if 0 < p.n.length then { p with n := p.n.eraseIdx (countI s.n p.n.length).toNat } else p)
  else if s.kind = 7 then (if 0 < p.n.length then { p with n := twiceL p.n (countI s.n p.n.length) } else p)
  else ticksS (countI s.n 7).toNat p

/-! ### What holds all the time -/
def MsgOk (p : PlayS) (m : Msg) : Prop :=
  1 ≤ m.n ∧ m.n ≤ (p.h.l.length : Int) ∧
  ((m.kind = 1 ∧ m.code = m.n % 3 ∧ 0 ≤ m.mins ∧ m.mins ≤ 11 ∧ 1 ≤ m.low ∧ m.low ≤ (p.h.frm : Int) + 1 ∧ m.n ≤ m.low + 63) ∨
   m.kind = 2 ∨
   (m.kind = 3 ∧ m.code = m.n % 3 ∧ ∃ e, p.ends[(m.n - 1).toNat]? = some e ∧ 0 ≤ e ∧ e ≤ p.clock) ∨
   m.kind = 4)
structure InvH (p : PlayS) : Prop where
  me : p.h.me = 0 ∧ p.h.other = 1
  run : p.run = (p.h.l.length : Int)
  ends : p.ends.length = p.h.l.length
  seenL : p.seen.length = p.h.l.length
  req : ∀ (i : Nat) r, p.h.l[i]? = some r → r.run = (i : Int) + 1 ∧ r.code = ((i : Int) + 1) % 3 ∧ 0 ≤ r.mins ∧ r.mins ≤ 11
  frm : p.h.frm ≤ p.h.l.length
  win : p.h.l.length ≤ p.h.frm + 64
  seen : ∀ (i : Nat) r, p.h.l[i]? = some r → p.seen[i]? = some (if r.state = 2 then 1 else 0)
structure InvA (p : PlayS) : Prop where
  me : p.a.me = 1 ∧ p.a.other = 0
  sorted : SortedA p.a.l
  work : ∀ x ∈ p.a.l, p.a.low ≤ x.run ∧ x.run ≤ p.a.low + 63 ∧ 1 ≤ x.run ∧ x.run ≤ (p.h.l.length : Int) ∧ x.code = x.run % 3 ∧ p.ends[(x.run - 1).toNat]? = some x.fin ∧ 0 ≤ x.fin ∧ (x.over = true → x.fin ≤ p.clock)
  low : 1 ≤ p.a.low ∧ p.a.low ≤ (p.h.frm : Int) + 1
  begun : ∀ (i : Nat) e, p.ends[i]? = some e → 0 ≤ e → (∃ x ∈ p.a.l, x.run = (i : Int) + 1) ∨ (i : Int) + 1 < p.a.low
  cnt : p.a.begun = (p.ends.filter fun e => decide (0 ≤ e)).length
structure Inv (p : PlayS) : Prop where
  h : InvH p
  a : InvA p
  msg : ∀ m ∈ p.n, MsgOk p m
  ok : p.bad = false
  clock : 0 ≤ p.clock

theorem sendL_mem {x m : Msg} {n : List Msg} (h : x ∈ sendL m n) : x = m ∨ x ∈ n := by
  unfold sendL at h
  split at h
  · split at h
    · exact .inr h
    · simp only [List.mem_append, List.mem_singleton] at h
      exact h.symm
  · exact .inr h
theorem sendsL_mem {x : Msg} : ∀ {ms n : List Msg}, x ∈ sendsL ms n → x ∈ ms ∨ x ∈ n
  | [], _, h => .inr h
  | m :: ms, n, h => by
    rcases sendsL_mem (ms := ms) h with h | h
    · exact .inl (List.mem_cons_of_mem _ h)
    · rcases sendL_mem h with rfl | h
      · exact .inl List.mem_cons_self
      · exact .inr h
theorem low_eq {p : PlayS} (h : InvH p) : p.h.low = (p.h.frm : Int) + 1 := by
  unfold HubS.low
  cases hx : p.h.l[p.h.frm]? with
  | some r => exact (h.req _ r hx).1
  | none =>
    have hf : p.h.l.length ≤ p.h.frm := List.getElem?_eq_none_iff.1 hx
    have := h.frm
    have e : p.h.frm = p.h.l.length := by omega
    simp only
    unfold lastR
    rw [e]
    cases hl : p.h.l.getLast? with
    | none =>
      rw [List.getLast?_eq_none_iff] at hl
      simp [hl]
    | some r =>
      have hn : p.h.l ≠ [] := by intro h0; rw [h0] at hl; simp at hl
      have hpos : 0 < p.h.l.length := List.length_pos_iff.2 hn
      rw [List.getLast?_eq_getElem?] at hl
      have := (h.req _ r hl).1
      simp only
      omega
theorem last_eq {p : PlayS} (h : InvH p) : lastR p.h.l = (p.h.l.length : Int) := by
  unfold lastR
  cases hl : p.h.l.getLast? with
  | none =>
    rw [List.getLast?_eq_none_iff] at hl
    simp [hl]
  | some r =>
    have hn : p.h.l ≠ [] := by intro h0; rw [h0] at hl; simp at hl
    have hpos : 0 < p.h.l.length := List.length_pos_iff.2 hn
    rw [List.getLast?_eq_getElem?] at hl
    have := (h.req _ r hl).1
    simp only
    omega

theorem MsgOk.mono {p p' : PlayS} {m : Msg} (h : MsgOk p m) (hl : p.h.l.length ≤ p'.h.l.length) (hf : p.h.frm ≤ p'.h.frm) (he : ∀ (i : Nat) (e : Int), p.ends[i]? = some e → 0 ≤ e → p'.ends[i]? = some e) (hc : p.clock ≤ p'.clock) : MsgOk p' m := by
  obtain ⟨h1, h2, h3⟩ := h
  refine ⟨h1, by omega, ?_⟩
  rcases h3 with ⟨a, b, c, d, e, f, g⟩ | h3 | ⟨a, b, e, h4, h5, h6⟩ | h3
  · exact .inl ⟨a, b, c, d, e, by omega, g⟩
  · exact .inr (.inl h3)
  · exact .inr (.inr (.inl ⟨a, b, e, he _ _ h4 h5, h5, by omega⟩))
  · exact .inr (.inr (.inr h3))
/-! ### sorted runs -/
theorem SortedA.lt_of {l : List WorkS} (h : SortedA l) {i j : Nat} {x y : WorkS} (hx : l[i]? = some x) (hy : l[j]? = some y) (hij : i < j) : x.run < y.run := by
  obtain ⟨hi, rfl⟩ := List.getElem?_eq_some_iff.1 hx
  obtain ⟨hj, rfl⟩ := List.getElem?_eq_some_iff.1 hy
  exact List.pairwise_iff_getElem.1 h i j hi hj hij
theorem posA_le (run : Int) (l : List WorkS) : posA run l ≤ l.length := by
  unfold posA
  exact (List.takeWhile_sublist _).length_le
theorem mem_tw {α : Type} {f : α → Bool} {x : α} : ∀ {l : List α}, x ∈ l.takeWhile f → f x = true
  | [], h => by cases h
  | y :: l, h => by
    rw [List.takeWhile_cons] at h
    split at h
    · rename_i hy
      rcases List.mem_cons.1 h with rfl | h
      · exact hy
      · exact mem_tw h
    · cases h
theorem posA_take {run : Int} {l : List WorkS} {x : WorkS} (hx : x ∈ l.take (posA run l)) : x.run < run := by
  have e : l.take (posA run l) = l.takeWhile fun x => decide (x.run < run) := by
    unfold posA
    exact (List.prefix_iff_eq_take.1 (List.takeWhile_prefix _)).symm
  rw [e] at hx
  have := mem_tw hx
  simpa using this
theorem posA_drop {run : Int} {l : List WorkS} (h : SortedA l) {x : WorkS} (hx : x ∈ l.drop (posA run l)) : run ≤ x.run := by
  have e : l.drop (posA run l) = l.dropWhile fun x => decide (x.run < run) := by
    unfold posA
    induction l with
    | nil => rfl
    | cons y l ih =>
      simp only [List.takeWhile_cons, List.dropWhile_cons]
      by_cases hy : y.run < run
      · simp only [hy, decide_true, if_true, List.length_cons, List.drop_succ_cons]
        exact ih (List.pairwise_cons.1 h).2 (by
          have hx' := hx
          unfold posA at hx'
          simp only [List.takeWhile_cons, hy, decide_true, if_true, List.length_cons, List.drop_succ_cons] at hx'
          exact hx')
      · simp [hy]
  rw [e] at hx
  clear e
  induction l with
  | nil => cases hx
  | cons y l ih =>
    simp only [List.dropWhile_cons] at hx
    by_cases hy : y.run < run
    · simp only [hy, decide_true, if_true] at hx
      exact ih (List.pairwise_cons.1 h).2 hx
    · simp only [hy, decide_false, Bool.false_eq_true, if_false] at hx
      rcases List.mem_cons.1 hx with rfl | hx
      · omega
      · have := (List.pairwise_cons.1 h).1 x hx
        omega
theorem mem_drop_posA {run : Int} {l : List WorkS} {x : WorkS} (hx : x ∈ l) (hr : run ≤ x.run) : x ∈ l.drop (posA run l) := by
  have h1 : x ∈ l.take (posA run l) ++ l.drop (posA run l) := by rw [List.take_append_drop]; exact hx
  rcases List.mem_append.1 h1 with h1 | h1
  · have := posA_take h1; omega
  · exact h1
theorem atA_some {run : Int} {l : List WorkS} {x : WorkS} (h : atA run l = some x) : l[posA run l]? = some x ∧ x.run = run := by
  unfold atA at h
  split at h
  · rename_i y hy
    split at h
    · rename_i hr
      injection h with h
      subst h
      exact ⟨hy, hr⟩
    · cases h
  · cases h
theorem atA_none {run : Int} {l : List WorkS} (hs : SortedA l) (h : atA run l = none) : ∀ x ∈ l, x.run ≠ run := by
  intro x hx hr
  have h1 := mem_drop_posA hx (Int.le_of_eq hr.symm)
  obtain ⟨j, hj⟩ := List.getElem?_of_mem h1
  rw [List.getElem?_drop] at hj
  have hlt := (List.getElem?_eq_some_iff.1 hj).1
  have hy : l[posA run l]? = some l[posA run l] := List.getElem?_eq_getElem (by omega)
  unfold atA at h
  rw [hy] at h
  simp only at h
  split at h
  · cases h
  · rename_i hne
    have h2 : run ≤ (l[posA run l]).run := posA_drop hs (by rw [List.mem_iff_getElem?]; exact ⟨0, by rw [List.getElem?_drop]; exact hy⟩)
    rcases Nat.eq_zero_or_pos j with rfl | h0
    · rw [Nat.add_zero, hy] at hj
      injection hj with hj
      rw [hj] at hne
      exact hne hr
    · have := hs.lt_of hy hj (by omega)
      omega
theorem SortedA.runs {l l' : List WorkS} (h : SortedA l) (e : l'.map WorkS.run = l.map WorkS.run) : SortedA l' := by
  unfold SortedA at h ⊢
  rw [← List.pairwise_map (f := WorkS.run) (R := (· < ·))] at h ⊢
  rw [e]
  exact h
theorem SortedA.drop {l : List WorkS} (h : SortedA l) (k : Nat) : SortedA (l.drop k) := List.Pairwise.sublist (List.drop_sublist _ _) h
theorem SortedA.len {l : List WorkS} (h : SortedA l) : ∀ {lo hi : Int}, (∀ x ∈ l, lo ≤ x.run ∧ x.run ≤ hi) → lo ≤ hi + 1 → (l.length : Int) ≤ hi + 1 - lo := by
  induction l with
  | nil => intro lo hi _ h1; simp; omega
  | cons x l ih =>
    intro lo hi hb _
    obtain ⟨h1, h2⟩ := List.pairwise_cons.1 h
    have hx := hb x List.mem_cons_self
    have := ih h2 (lo := x.run + 1) (hi := hi) (fun y hy => ⟨by have := h1 y hy; omega, (hb y (List.mem_cons_of_mem _ hy)).2⟩) (by omega)
    simp only [List.length_cons]
    omega
theorem insA_mem {l : List WorkS} {k : Nat} {x y : WorkS} (h : y ∈ insA l k x) : y = x ∨ y ∈ l := by
  unfold insA at h
  rcases List.mem_append.1 h with h | h
  · exact .inr (List.mem_of_mem_take h)
  · rcases List.mem_cons.1 h with h | h
    · exact .inl h
    · exact .inr (List.mem_of_mem_drop h)
theorem insA_of {l : List WorkS} {k : Nat} {x y : WorkS} (h : y = x ∨ y ∈ l) : y ∈ insA l k x := by
  unfold insA
  rcases h with rfl | h
  · exact List.mem_append_right _ List.mem_cons_self
  · rw [← List.take_append_drop k l] at h
    rcases List.mem_append.1 h with h | h
    · exact List.mem_append_left _ h
    · exact List.mem_append_right _ (List.mem_cons_of_mem _ h)
theorem insA_sorted {l : List WorkS} (h : SortedA l) {x : WorkS} (hn : ∀ y ∈ l, y.run ≠ x.run) : SortedA (insA l (posA x.run l) x) := by
  unfold insA SortedA
  rw [List.pairwise_append]
  refine ⟨List.Pairwise.sublist (List.take_sublist _ _) h, List.pairwise_cons.2 ⟨fun y hy => ?_, h.drop _⟩, fun a ha b hb => ?_⟩
  · have h1 := posA_drop h hy
    have h2 := hn y (List.mem_of_mem_drop hy)
    omega
  · have h1 := posA_take ha
    rcases List.mem_cons.1 hb with rfl | hb
    · exact h1
    · have := posA_drop h hb
      omega
end Go.Proofs.Ytohnchkoldbpcaa

/- agent: what an agent's start does to its memory. -/
namespace Go.Proofs.Ytohnchkoldbpcaa
open Go Go.RowKit Go.Proofs

/-- what an agent's Take gives back -/
structure AgOut (w : World) (e : Ending) (ms : List Msg) (er : Int) : Prop where
  out : ∃ A c, e = .returned (.tuple #[.slice A ms.length c, .int .i64 er]) ∧ Sl w 26 8 A ms.length (ms.flatMap Msg.vals)
theorem AgOut.nil (w : World) (er : Int) : AgOut w (.returned (.tuple #[.slice none 0 0, .int .i64 er])) [] er := ⟨none, 0, rfl, Sl.nil _ _ _ _⟩
theorem agstart_res {tmps : Array Value} {w : World} {v : Value} {e : Int} (h4 : tmps.getD 6 undef = v) (h5 : tmps.getD 7 undef = .int .i64 e) :
    (results Try.f28 tmps).run Try.prog w = .ok (.tuple #[v, .int .i64 e]) w := by
  simp only [Array.getD_eq_getD_getElem?] at h4 h5
  simp [results, Try.results28, go_sem, h4, h5]
section
variable {w w' : World} {q : Nat} {u : Value} {bs : List Nat} {a : AgS}
theorem AgAt.row_ne (H : AgAt w q u bs a) {k : Nat} (hk : u.ownBlock = some k) : k ≠ q := row_ne_blk H.row H.blk (by decide) hk
/-- another cell of the agent's own block, that is neither its row nor a list -/
theorem AgAt.setLow (H : AgAt w q u bs a) (low : Int) : AgAt (w.setCell ⟨q, 3, none⟩ (.int .i64 low)) q u bs { a with low := low } := by
  have F : Fr (fun j => j = q) w (w.setCell ⟨q, 3, none⟩ (.int .i64 low)) := fr_cell rfl
  exact ⟨H.blk.set_ 3 (.int .i64 low), own_fr H.row F fun j hj e => H.row_ne hj e, H.len,
    fun i b x hb hx => (H.work i b x hb hx).fr F (fun e => H.b_ne_q (List.mem_of_getElem? hb) e), H.nodup, H.most⟩
theorem AgAt.setBegun (H : AgAt w q u bs a) (n : Nat) : AgAt (w.setCell ⟨q, 4, none⟩ (.int .i64 n)) q u bs { a with begun := n } := by
  have F : Fr (fun j => j = q) w (w.setCell ⟨q, 4, none⟩ (.int .i64 n)) := fr_cell rfl
  exact ⟨H.blk.set_ 4 (.int .i64 n), own_fr H.row F fun j hj e => H.row_ne hj e, H.len,
    fun i b x hb hx => (H.work i b x hb hx).fr F (fun e => H.b_ne_q (List.mem_of_getElem? hb) e), H.nodup, H.most⟩
/-- another row, the list cut -/
theorem AgAt.setDrop (H : AgAt w q u bs a) {v : Value} {k : Nat} (hrow : w.ownsRow 0 81 1 v (a.l.length - k) (ptrV (bs.drop k))) :
    AgAt (w.setCell ⟨q, 2, none⟩ v) q v (bs.drop k) { a with l := a.l.drop k } := by
  have F : Fr (fun j => j = q) w (w.setCell ⟨q, 2, none⟩ v) := fr_cell rfl
  refine ⟨H.blk.set_ 2 v, ?_, ?_, ?_, H.nodup.sublist (List.drop_sublist _ _), ?_⟩
  · show World.ownsRow _ 0 81 1 v (a.l.drop k).length _
    rw [List.length_drop]
    exact own_fr hrow F fun j hj e => row_ne_blk hrow H.blk (by decide) hj e
  · show (bs.drop k).length = (a.l.drop k).length
    rw [List.length_drop, List.length_drop, H.len]
  · intro i b x hb hx
    replace hx : (a.l.drop k)[i]? = some x := hx
    rw [List.getElem?_drop] at hb hx
    exact (H.work _ b x hb hx).fr F (fun e => H.b_ne_q (List.mem_of_getElem? hb) e)
  · show (a.l.drop k).length ≤ _
    have := H.most
    rw [List.length_drop]
    omega
/-- one work more; its block lies behind all -/
theorem AgAt.addWork {w0 : World} {v : Value} {k b : Nat} {x : WorkS} (H : AgAt w0 q u bs a) (hk : k ≤ a.l.length) (hm : a.l.length < 2147483647) (hb : w0.heap.size ≤ b) (hf : Fr No w0 w) (hB : Blk w b 80 x.vals)
    (hrow : w'.ownsRow 0 81 1 v (bs.length + 1) (ptrV (bs.take k ++ b :: bs.drop k))) (hg : Fr (fun j => some j = u.ownBlock) w w') (hat : v.ownBlock = u.ownBlock ∨ v.ownBlock = some w.heap.size) :
    AgAt (w'.setCell ⟨q, 2, none⟩ v) q v (bs.take k ++ b :: bs.drop k) { a with l := insA a.l k x } := by
  have F : Fr (fun j => j = q) w' (w'.setCell ⟨q, 2, none⟩ v) := fr_cell rfl
  have H1 := H.fr0 hf
  have hq : Blk w' q 74 [.int .i64 a.me, .int .i64 a.other, u, .int .i64 a.low, .int .i64 a.begun] := H1.blk.fr hg fun e => H.row_ne e.symm rfl
  have hub : ∀ j, some j = u.ownBlock → j < w0.heap.size := fun j hj => H.lt j (.inr (.inr hj.symm))
  have hlen : bs.length = a.l.length := H.len
  have hq0 : q < w0.heap.size := H.blk.lt
  have hbq : b ≠ q := by omega
  have hlk : (bs.take k).length = k := by rw [List.length_take]; omega
  have hlk' : (a.l.take k).length = k := by rw [List.length_take]; omega
  have key : ∀ (i c : Nat) (y : WorkS), bs[i]? = some c → a.l[i]? = some y → Blk (w'.setCell ⟨q, 2, none⟩ v) c 80 y.vals := fun i c y hc hy =>
    ((H1.work i c y hc hy).fr hg (fun e => H.b_ne_row (List.mem_of_getElem? hc) e.symm)).fr F (fun e => H.b_ne_q (List.mem_of_getElem? hc) e)
  refine ⟨hq.set_ 2 v, ?_, ?_, ?_, ?_, ?_⟩
  · show World.ownsRow _ 0 81 1 v (insA a.l k x).length _
    rw [show (insA a.l k x).length = bs.length + 1 by simp [insA]; omega]
    exact own_fr hrow F fun j hj e => row_ne_blk hrow hq (by decide) hj e
  · show (bs.take k ++ b :: bs.drop k).length = (insA a.l k x).length
    simp [insA]; omega
  · intro i c y hc hy
    replace hy : (a.l.take k ++ x :: a.l.drop k)[i]? = some y := hy
    by_cases h1 : i < k
    · rw [List.getElem?_append_left (by omega), List.getElem?_take_of_lt h1] at hc hy
      exact key i c y hc hy
    · rw [List.getElem?_append_right (by omega), hlk] at hc
      rw [List.getElem?_append_right (by omega), hlk'] at hy
      cases hik : i - k with
      | zero =>
        rw [hik] at hc hy
        simp only [List.getElem?_cons_zero, Option.some.injEq] at hc hy
        subst hc hy
        exact (hB.fr hg (fun e => by have := hub _ e; omega)).fr F hbq
      | succ d =>
        rw [hik, List.getElem?_cons_succ, List.getElem?_drop] at hc hy
        exact key _ c y hc hy
  · have hnb : b ∉ bs := fun h => by have := H.lt b (.inr (.inl h)); omega
    have hnd : (bs.take k ++ bs.drop k).Nodup := by rw [List.take_append_drop]; exact H.nodup
    rw [List.nodup_append] at hnd ⊢
    obtain ⟨n1, n2, n3⟩ := hnd
    refine ⟨n1, List.nodup_cons.2 ⟨fun h => hnb (List.mem_of_mem_drop h), n2⟩, fun c hc d hd => ?_⟩
    rcases List.mem_cons.1 hd with rfl | hd
    · exact fun e => hnb (by rw [← e]; exact List.mem_of_mem_take hc)
    · exact n3 c hc d hd
  · show (insA a.l k x).length ≤ 2147483647
    rw [show (insA a.l k x).length = bs.length + 1 by simp [insA]; omega]
    omega
end
/-- what start does behind its forgetting -/
def stTail (a b : AgS) (x : Msg) (clock : Int) : AgS × List Msg × Int :=
  if x.n < b.low then (b, [], 0)
  else match atA x.n b.l with
    | some y => if y.over then ({ b with l := b.l.set (posA x.n b.l) { y with over := true, sent := clock } }, [sayM a.me a.other 3 y.run y.code], 0) else (b, [sayM a.me a.other 2 x.n 0], 0)
    | none => if 64 ≤ b.l.length then (b, [], 4) else ({ b with l := insA b.l (posA x.n b.l) ⟨x.n, false, false, clock + x.mins, x.code, 0⟩, begun := b.begun + 1 }, [sayM a.me a.other 2 x.n 0], 0)
def stGo (a b : AgS) (x : Msg) (clock : Int) : AgS × List Msg × Int :=
  match atA x.n b.l with
    | some y => if y.over then ({ b with l := b.l.set (posA x.n b.l) { y with over := true, sent := clock } }, [sayM a.me a.other 3 y.run y.code], 0) else (b, [sayM a.me a.other 2 x.n 0], 0)
    | none => if 64 ≤ b.l.length then (b, [], 4) else ({ b with l := insA b.l (posA x.n b.l) ⟨x.n, false, false, clock + x.mins, x.code, 0⟩, begun := b.begun + 1 }, [sayM a.me a.other 2 x.n 0], 0)
def SameEnds (a b : AgS) : Prop := b.me = a.me ∧ b.other = a.other
theorem SameEnds.me {a b : AgS} (h : SameEnds a b) : b.me = a.me := h.1
theorem SameEnds.oth {a b : AgS} (h : SameEnds a b) : b.other = a.other := h.2
theorem insert_len (u : Value) (bs : List Nat) (n k b vb : Nat) (w : World) (hl : bs.length = n) (hu : w.ownsRow 0 81 1 u n (ptrV bs)) (hn : n ≤ 1000000) (hk : k ≤ n)
    (hV : Blk w vb 81 [.pointer (some ⟨b, 0, none⟩)]) (hne : u.ownBlock ≠ some vb) :
    Calls Try.prog 42 #[u, .int .i64 (k : Int), .slice (some ⟨vb, 0, none⟩) 1 1] w fun e w' => ∃ v, e = .returned v ∧ w'.ownsRow 0 81 1 v (bs.length + 1) (ptrV (bs.take k ++ b :: bs.drop k)) ∧ Fr (fun j => some j = u.ownBlock) w w' ∧ (v.ownBlock = u.ownBlock ∨ v.ownBlock = some w.heap.size) := by
  subst hl
  exact insert_any u bs k b vb w hu hn hk hV hne
theorem AgF_ins {q b n n' : Nat} {u v : Value} {bs : List Nat} {k : Nat} {S : Nat → Prop} (hS : ∀ k, AgF q u bs k → S k ∨ n ≤ k) (hb : n ≤ b) (hn : n ≤ n') (hat : v.ownBlock = u.ownBlock ∨ v.ownBlock = some n') :
    ∀ j, AgF q v (bs.take k ++ b :: bs.drop k) j → S j ∨ n ≤ j := by
  rintro j (rfl | h | h)
  · exact hS _ (.inl rfl)
  · rcases List.mem_append.1 h with h | h
    · exact hS _ (.inr (.inl (List.mem_of_mem_take h)))
    · rcases List.mem_cons.1 h with rfl | h
      · exact .inr hb
      · exact hS _ (.inr (.inl (List.mem_of_mem_drop h)))
  · rcases hat with e | e
    · rw [e] at h
      exact hS _ (.inr (.inr h))
    · rw [e] at h
      injection h with h
      subst h
      exact .inr hn
theorem SortedA.dropS {l : List WorkS} (h : SortedA l) (k : Nat) : SortedA (l.drop k) := List.Pairwise.sublist (List.drop_sublist k l) h
end Go.Proofs.Ytohnchkoldbpcaa

/- agent: start. -/
namespace Go.Proofs.Ytohnchkoldbpcaa
open Go Go.RowKit Go.Proofs

def StOut (w w' : World) (q : Nat) (u : Value) (bs : List Nat) (e : Ending) (r : AgS × List Msg × Int) : Prop :=
  ∃ u' bs', AgOut w' e r.2.1 r.2.2 ∧ AgAt w' q u' bs' r.1 ∧ Fr (AgF q u bs) w w' ∧ ∀ k, AgF q u' bs' k → AgF q u bs k ∨ w.heap.size ≤ k
theorem StOut.same {w w' : World} {q : Nat} {u : Value} {bs : List Nat} {a : AgS} {e : Ending} {ms : List Msg} {er : Int} (H : AgAt w q u bs a) (ho : AgOut w' e ms er) (hf : Fr No w w') : StOut w w' q u bs e (a, ms, er) :=
  ⟨u, bs, ho, H.fr0 hf, hf.any _, fun _ h => .inl h⟩
set_option maxRecDepth 100000 in
set_option maxHeartbeats 1000000 in
theorem agstart_bad (q : Nat) (u : Value) (bs : List Nat) (a : AgS) (x : Msg) (clock : Int) (w : World) (H : AgAt w q u bs a) (hb : (isRunB x.n && decide (x.mins ≤ 10080)) = false) :
    Calls Try.prog 28 #[.pointer (some ⟨q, 0, none⟩), x.val, .int .i64 clock] w fun e w' => StOut w w' q u bs e (a.start x clock) := by
  have HE := Lib.hid (show a.start x clock = (a, [], 1) by unfold AgS.start; rw [hb]; rfl)
  have HH := Lib.hid H
  clear H
  rw [HE.out]
  have HX := Lib.hid (Blk.new w 26 x.vals)
  by_cases hr : isRunB x.n = true
  · have HR := Lib.hid hr
    rw [hr, Bool.true_and] at hb
    have hm : 10080 < x.mins := by simpa using hb
    clear hb hr
    go_enter Try.func28, Try.ntmps28
    go_wp2_with (go_at_call 22; refine (isRun_any _ _).mono ?_; rintro e w1 ⟨he, hw1⟩; rw [HR.out] at he; obtain rfl := he; subst w1)
    exact bodyPost_ret (agstart_res rfl rfl) rfl (StOut.same HH.out (AgOut.nil _ _) (by (repeat (first | exact Fr.refl _ _ | assumption | refine Fr.drew ?_ | refine Fr.drewL ?_ | refine Fr.alloc ?_ _))))
  · have HR := Lib.hid (show isRunB x.n = false by simpa using hr)
    clear hb hr
    go_enter Try.func28, Try.ntmps28
    go_wp2_with (go_at_call 22; refine (isRun_any _ _).mono ?_; rintro e w1 ⟨he, hw1⟩; rw [HR.out] at he; obtain rfl := he; subst w1)
    exact bodyPost_ret (agstart_res rfl rfl) rfl (StOut.same HH.out (AgOut.nil _ _) (by (repeat (first | exact Fr.refl _ _ | assumption | refine Fr.drew ?_ | refine Fr.drewL ?_ | refine Fr.alloc ?_ _))))
set_option maxRecDepth 100000 in
set_option maxHeartbeats 4000000 in
theorem agstart_keep (q : Nat) (u : Value) (bs : List Nat) (a : AgS) (x : Msg) (clock : Int) (w : World) (H : AgAt w q u bs a) (hs : SortedA a.l) (hl : a.l.length ≤ 1000000) (hbg : a.begun ≤ 1000000) (hc0 : 0 ≤ clock) (hc1 : clock ≤ 5258966399)
    (hr : isRunB x.n = true) (hm0 : 0 ≤ x.mins) (hm : x.mins ≤ 10080) (hlow : x.low ≤ a.low) :
    Calls Try.prog 28 #[.pointer (some ⟨q, 0, none⟩), x.val, .int .i64 clock] w fun e w' => StOut w w' q u bs e (a.start x clock) := by
  obtain ⟨A, cA, rfl, hcA⟩ := own_shape H.row
  have HST := Lib.hid (show a.start x clock = stTail a a x clock by
    unfold AgS.start
    rw [if_pos (by rw [hr]; simpa using hm)]
    show stTail a (a.forget x.low) x clock = _
    unfold AgS.forget
    rw [if_neg (show ¬ a.low < x.low by omega)])
  have hm2 : decide (10080 < x.mins) = false := by simp only [decide_eq_false_iff_not]; omega
  have HH := Lib.hid H
  have HS := Lib.hid hs
  have HR := Lib.hid hr
  have HX := Lib.hid (Blk.new w 26 x.vals)
  have d3 := H.blk.cell 3
  have dl := H.blk.lt
  simp only [List.getElem?_cons_zero, List.getElem?_cons_succ] at d3
  have hlo : decide (a.low < x.low) = false := by simp only [decide_eq_false_iff_not]; omega
  clear H hs hr hlow
  go_enter Try.func28, Try.ntmps28
  go_wp2_with (go_at_call 22; refine (isRun_any _ _).mono ?_; rintro e w1 ⟨he, hw1⟩; rw [HR.out] at he; obtain rfl := he; subst w1)
  refine wp_region_o [(0, 0), (2, 0), (3, 0), (4, 0), (1, 1), (5, 1), (6, 0)] (by kernel_rfl) (by kernel_rfl) ?_
  repeat (first
    | (apply wpO_pure rfl rfl; (focus (intro w'; go_simp; (try rfl); done)); try simp only [Act.put, List.setIfInBounds_toArray, List.set_cons_zero, List.set_cons_succ])
    | (apply wpO_read rfl rfl; (focus (intro w' hf' hs'; (try simp only [World.size_drew, World.cell?_drew, World.size_alloc, World.size_setCell] at hs'); go_simp; (try rfl); done)); try simp only [Act.put, List.setIfInBounds_toArray, List.set_cons_zero, List.set_cons_succ])
    | (apply wpO_skip (by decide) rfl rfl; try simp only [Act.put, List.setIfInBounds_toArray, List.set_cons_zero, List.set_cons_succ]))
  refine wpO_nil ?_
  generalize hW : World.drew _ = W
  have HF0 : Hid (Fr (AgF q (.slice A a.l.length cA) bs) w W) := Lib.hid (by subst hW; exact (by (repeat (first | exact Fr.refl _ _ | assumption | refine Fr.drew ?_ | refine Fr.drewL ?_ | refine Fr.alloc ?_ _))))
  have HA := Lib.hid (show AgAt W q (.slice A a.l.length cA) bs a by subst hW; exact HH.out.fr0 (by (repeat (first | exact Fr.refl _ _ | assumption | refine Fr.drew ?_ | refine Fr.drewL ?_ | refine Fr.alloc ?_ _))))
  have HX := Lib.hid (show Blk W w.heap.size 26 x.vals by subst hW; exact HX.out)
  have HNF : Hid (∀ k, AgF q (.slice A a.l.length cA) bs k → AgF q (.slice A a.l.length cA) bs k ∨ w.heap.size ≤ k) := Lib.hid fun _ h => .inl h
  have HME : Hid (SameEnds a a) := Lib.hid ⟨rfl, rfl⟩
  have HLB := Lib.hid hl
  have HBG := Lib.hid hbg
  clear hW d3 dl hlo hl hbg HH HR
  have d0 := HA.out.blk.cell 0
  have d1 := HA.out.blk.cell 1
  have d3 := HA.out.blk.cell 3
  have dl := HA.out.blk.lt
  have x3 := HX.out.cell 3
  have xl := HX.out.lt
  simp only [List.getElem?_cons_zero, List.getElem?_cons_succ] at d0 d1 d3 x3
  by_cases hnl : x.n < (a).low
  · have hnl2 : decide (x.n < (a).low) = true := by simpa using hnl
    have HR0 := Lib.hid (show stTail a (a) x clock = (a, [], 0) by unfold stTail; rw [if_pos hnl])
    clear hnl
    try go_wp2
    refine wp_region_o [(0, 0), (2, 0), (3, 0), (4, 0), (1, 1), (5, 1), (6, 0)] (by kernel_rfl) (by kernel_rfl) ?_
    repeat (first
      | (apply wpO_pure rfl rfl; (focus (intro w'; go_simp; (try rfl); done)); try simp only [Act.put, List.setIfInBounds_toArray, List.set_cons_zero, List.set_cons_succ])
      | (apply wpO_read rfl rfl; (focus (intro w' hf' hs'; (try simp only [World.size_drew, World.cell?_drew, World.size_alloc, World.size_setCell] at hs'); go_simp; (try rfl); done)); try simp only [Act.put, List.setIfInBounds_toArray, List.set_cons_zero, List.set_cons_succ])
      | (apply wpO_skip (by decide) rfl rfl; try simp only [Act.put, List.setIfInBounds_toArray, List.set_cons_zero, List.set_cons_succ]))
    refine wpO_nil ?_
    go_wp2
    exact bodyPost_ret (agstart_res rfl rfl) rfl (by rw [HST.out, HR0.out]; exact ⟨_, bs, AgOut.nil _ _, HA.out.fr0 (by (repeat (first | exact Fr.refl _ _ | assumption | refine Fr.drew ?_ | refine Fr.drewL ?_ | refine Fr.alloc ?_ _))), HF0.out.drew, HNF.out⟩)
  · have hnl2 : decide (x.n < (a).low) = false := by simpa using hnl
    have HTL : Hid (stTail a (a) x clock = stGo a (a) x clock) := Lib.hid (by unfold stTail; rw [if_neg hnl]; rfl)
    clear hnl
    try go_wp2
    refine wp_region_o [(0, 0), (2, 0), (3, 0), (4, 0), (1, 1), (5, 1), (6, 0)] (by kernel_rfl) (by kernel_rfl) ?_
    repeat (first
      | (apply wpO_pure rfl rfl; (focus (intro w'; go_simp; (try rfl); done)); try simp only [Act.put, List.setIfInBounds_toArray, List.set_cons_zero, List.set_cons_succ])
      | (apply wpO_read rfl rfl; (focus (intro w' hf' hs'; (try simp only [World.size_drew, World.cell?_drew, World.size_alloc, World.size_setCell] at hs'); go_simp; (try rfl); done)); try simp only [Act.put, List.setIfInBounds_toArray, List.set_cons_zero, List.set_cons_succ])
      | (apply wpO_skip (by decide) rfl rfl; try simp only [Act.put, List.setIfInBounds_toArray, List.set_cons_zero, List.set_cons_succ]))
    refine wpO_nil ?_
    go_wp2
    refine wp_region_o [(0, 0), (1, 0), (2, 0), (4, 0), (3, 1), (5, 1), (6, 2), (7, 2), (8, 0)] (by kernel_rfl) (by kernel_rfl) ?_
    repeat (first
      | (apply wpO_pure rfl rfl; (focus (intro w'; go_simp; (try rfl); done)); try simp only [Act.put, List.setIfInBounds_toArray, List.set_cons_zero, List.set_cons_succ])
      | (apply wpO_read rfl rfl; (focus (intro w' hf' hs'; (try simp only [World.size_drew, World.cell?_drew, World.size_alloc, World.size_setCell] at hs'); go_simp; (try rfl); done)); try simp only [Act.put, List.setIfInBounds_toArray, List.set_cons_zero, List.set_cons_succ])
      | (apply wpO_skip (by decide) rfl rfl; try simp only [Act.put, List.setIfInBounds_toArray, List.set_cons_zero, List.set_cons_succ]))
    refine wpO_loudE rfl fun K hK => ?_
    go_simp
    refine (say_any _ _ _ _ _ _).mono ?_
    rintro e w1 ⟨rfl, hf1⟩
    refine hK _ _ ⟨hf1, ?_⟩
    clear hK K
    refine wpO_loudE rfl fun K hK => ?_
    go_simp
    refine hK _ _ ⟨by (repeat (first | exact Fr.refl _ _ | assumption | refine Fr.drew ?_ | refine Fr.drewL ?_ | refine Fr.alloc ?_ _)), ?_⟩
    clear hK K
    repeat (first
      | (apply wpO_pure rfl rfl; (focus (intro w'; go_simp; (try rfl); done)); try simp only [Act.put, List.setIfInBounds_toArray, List.set_cons_zero, List.set_cons_succ])
      | (apply wpO_read rfl rfl; (focus (intro w' hf' hs'; (try simp only [World.size_drew, World.cell?_drew, World.size_alloc, World.size_setCell] at hs'); go_simp; (try rfl); done)); try simp only [Act.put, List.setIfInBounds_toArray, List.set_cons_zero, List.set_cons_succ])
      | (apply wpO_skip (by decide) rfl rfl; try simp only [Act.put, List.setIfInBounds_toArray, List.set_cons_zero, List.set_cons_succ]))
    refine wpO_nil ?_
    generalize hW2 : World.alloc w1 _ = W2
    have HF2 : Hid (Fr No W W2) := Lib.hid (by subst hW2; exact ((((Fr.refl No W).drew).drew.trans hf1).alloc _))
    have HN2 : Hid (Sl W2 26 8 (some ⟨w1.heap.size, 0, none⟩) 1 (sayM (a).me (a).other 2 x.n 0).vals) := Lib.hid (by subst hW2; exact Sl.of_new w1 26 8 1 _ _ rfl rfl)
    have HA2 := Lib.hid (HA.out.fr0 HF2.out)
    have HX2 := Lib.hid (HX.out.fr HF2.out (fun h => h))
    have HF02 := Lib.hid (HF0.out.trans (HF2.out.any _))
    clear hW2 hf1 d0 d1 d3 dl x3 xl HF2 HF0 HA HX
    have x3 := HX2.out.cell 3
    have xl := HX2.out.lt
    simp only [List.getElem?_cons_zero, List.getElem?_cons_succ] at x3
    obtain ⟨P, hP⟩ : ∃ P, P = posA x.n (a).l := ⟨_, rfl⟩
    have HP := Lib.hid hP
    have hPl : P ≤ (a).l.length := by rw [hP]; exact posA_le _ _
    have hP0 : (0 : Int) ≤ (P : Int) := by omega
    have hL0 : (0 : Int) ≤ ((a).l.length : Int) := by omega
    have hPi : (P : Int) ≤ ((a).l.length : Int) := by omega
    clear hP
    cases hat : atA x.n (a).l with
    | some y =>
      have HAT := Lib.hid hat
      have hy := (atA_some hat).1
      rw [← HP.out] at hy
      have hPn : P < (a).l.length := (List.getElem?_eq_some_iff.1 hy).1
      have hP1 : (P : Int) < ((a).l.length : Int) := by omega
      obtain ⟨b0, hb0⟩ : ∃ b0, (bs)[P]? = some b0 := ⟨_, List.getElem?_eq_getElem (by rw [HA2.out.len]; exact hPn)⟩
      have HY := Lib.hid hy
      have HB0 := Lib.hid hb0
      obtain ⟨g0, o0, hA0, hg0, hcell, _⟩ := (Sl.of_own HA2.out.row).cells (by omega)
      subst hA0
      clear hat hy hb0 hcell hg0
      by_cases hov : y.over = true
      · have HGO := Lib.hid (show stGo a (a) x clock = ({ (a) with l := (a).l.set P { y with over := true, sent := clock } }, [sayM a.me a.other 3 y.run y.code], 0) by unfold stGo; rw [HAT.out, HP.out]; simp only [hov]; rfl)
        go_wp2_with (first
          | (go_at_call 29
             refine (find_any q _ (bs) (a) x.n _ (HA2.out.fr0 (by (repeat (first | exact Fr.refl _ _ | assumption | refine Fr.drew ?_ | refine Fr.drewL ?_ | refine Fr.alloc ?_ _)))) HS.out).mono ?_
             rintro e w3 ⟨he, hf3⟩
             rw [HAT.out, ← HP.out] at he
             obtain rfl := he
             have HF3 := Lib.hid hf3
             have HA3 := Lib.hid (HA2.out.fr0 hf3)
             have hbl := HA3.out.work P b0 y HB0.out HY.out
             have e1 := hbl.cell 1
             have el := hbl.lt
             have c2 := HA3.out.blk.cell 2
             have cl := HA3.out.blk.lt
             simp only [List.getElem?_cons_zero, List.getElem?_cons_succ, hov] at e1 c2
             obtain ⟨g1, o1, hA1, hg1, hcell, _⟩ := (Sl.of_own HA3.out.row).cells (by omega)
             injection hA1 with hA1
             injection hA1 with hA1 hA2
             subst hA1 hA2
             have k0 := hcell P (.pointer (some ⟨b0, 0, none⟩)) (by simp [HB0.out])
             clear hbl hcell hf3)
          | (go_at_call 30
             refine (tell_any q _ (bs) (a) _ HA3.out HB0.out HY.out clock).mono ?_
             rintro e w4 ⟨rfl, hA4, hf4⟩))
        exact bodyPost_ret (agstart_res rfl rfl) rfl (by
          rw [HST.out, HTL.out, HGO.out]
          refine ⟨_, _, ⟨some ⟨w4.heap.size, 0, none⟩, 1, rfl, ?_⟩, hA4.fr0 ((Fr.refl No w4).alloc _), ?_, HNF.out⟩
          · rw [← HME.out.me, ← HME.out.oth]
            exact Sl.of_new w4 26 8 1 _ _ rfl rfl
          · refine Fr.alloc ?_ _
            exact (HF02.out.trans (HF3.out.any _)).step hf4 fun k hk => (by
              have hk : k = b0 := hk
              subst hk
              exact HNF.out _ (.inr (.inl (List.mem_of_getElem? HB0.out)))))
      · have hov : y.over = false := by simpa using hov
        have HGO := Lib.hid (show stGo a (a) x clock = (a, [sayM a.me a.other 2 x.n 0], 0) by unfold stGo; rw [HAT.out]; simp only [hov]; rfl)
        go_wp2_with (first
          | (go_at_call 29
             refine (find_any q _ (bs) (a) x.n _ (HA2.out.fr0 (by (repeat (first | exact Fr.refl _ _ | assumption | refine Fr.drew ?_ | refine Fr.drewL ?_ | refine Fr.alloc ?_ _)))) HS.out).mono ?_
             rintro e w3 ⟨he, hf3⟩
             rw [HAT.out, ← HP.out] at he
             obtain rfl := he
             have HF3 := Lib.hid hf3
             have HA3 := Lib.hid (HA2.out.fr0 hf3)
             have hbl := HA3.out.work P b0 y HB0.out HY.out
             have e1 := hbl.cell 1
             have el := hbl.lt
             have c2 := HA3.out.blk.cell 2
             have cl := HA3.out.blk.lt
             simp only [List.getElem?_cons_zero, List.getElem?_cons_succ, hov] at e1 c2
             obtain ⟨g1, o1, hA1, hg1, hcell, _⟩ := (Sl.of_own HA3.out.row).cells (by omega)
             injection hA1 with hA1
             injection hA1 with hA1 hA2
             subst hA1 hA2
             have k0 := hcell P (.pointer (some ⟨b0, 0, none⟩)) (by simp [HB0.out])
             clear hbl hcell hf3))
        exact bodyPost_ret (agstart_res rfl rfl) rfl (by
          rw [HST.out, HTL.out, HGO.out]
          refine ⟨_, _, ⟨some ⟨w1.heap.size, 0, none⟩, 1, rfl, ?_⟩, HA3.out, HF02.out.trans (HF3.out.any _), HNF.out⟩
          rw [← HME.out.me, ← HME.out.oth]
          exact (HN2.out.fr0 HF3.out))
    | none =>
      have HAT := Lib.hid hat
      clear hat
      by_cases hfull : 64 ≤ (a).l.length
      · have HGO := Lib.hid (show stGo a (a) x clock = (a, [], 4) by unfold stGo; rw [HAT.out]; simp only; rw [if_pos hfull])
        have hfull1 : decide ((64 : Int) ≤ ((a).l.length : Int)) = true := by simp only [decide_eq_true_eq]; omega
        go_wp2_with (go_at_call 29
                     refine (find_any q _ (bs) (a) x.n _ (HA2.out.fr0 (by (repeat (first | exact Fr.refl _ _ | assumption | refine Fr.drew ?_ | refine Fr.drewL ?_ | refine Fr.alloc ?_ _)))) HS.out).mono ?_
                     rintro e w3 ⟨he, hf3⟩
                     rw [HAT.out, ← HP.out] at he
                     obtain rfl := he
                     have HF3 := Lib.hid hf3
                     have HA3 := Lib.hid (HA2.out.fr0 hf3)
                     have c2 := HA3.out.blk.cell 2
                     have cl := HA3.out.blk.lt
                     simp only [List.getElem?_cons_zero, List.getElem?_cons_succ] at c2
                     clear hf3)
        exact bodyPost_ret (agstart_res rfl rfl) rfl (by
          rw [HST.out, HTL.out, HGO.out]
          exact ⟨_, _, AgOut.nil _ _, HA3.out, HF02.out.trans (HF3.out.any _), HNF.out⟩)
      · have HGO := Lib.hid (show stGo a (a) x clock = ({ (a) with l := insA (a).l P ⟨x.n, false, false, clock + x.mins, x.code, 0⟩, begun := (a).begun + 1 }, [sayM a.me a.other 2 x.n 0], 0) by unfold stGo; rw [HAT.out, HP.out]; simp only; rw [if_neg hfull])
        have hfull1 : decide ((64 : Int) ≤ ((a).l.length : Int)) = false := by simp only [decide_eq_false_iff_not]; omega
        have hfull2 : ¬ (64 ≤ (a).l.length) := hfull
        have hcm : IntKind.i64.wrap (clock + x.mins) = clock + x.mins := IntWalk.i64_in _ (by omega)
        have hbn : IntKind.i64.wrap (((a).begun : Int) + 1) = ((a).begun : Int) + 1 := IntWalk.i64_in _ (by have := HBG.out; omega)
        go_wp2_with (first
          | (go_at_call 29
             refine (find_any q _ (bs) (a) x.n _ (HA2.out.fr0 (by (repeat (first | exact Fr.refl _ _ | assumption | refine Fr.drew ?_ | refine Fr.drewL ?_ | refine Fr.alloc ?_ _)))) HS.out).mono ?_
             rintro e w3 ⟨he, hf3⟩
             rw [HAT.out, ← HP.out] at he
             obtain rfl := he
             have HF3 := Lib.hid hf3
             have HA3 := Lib.hid (HA2.out.fr0 hf3)
             have HN3 := Lib.hid (HN2.out.fr0 hf3)
             have HX3 := HX2.out.fr hf3 (fun h => h)
             have z3 := HX3.cell 3
             have z5 := HX3.cell 5
             have z6 := HX3.cell 6
             have zl := HX3.lt
             have c2 := HA3.out.blk.cell 2
             have cl := HA3.out.blk.lt
             simp only [List.getElem?_cons_zero, List.getElem?_cons_succ] at c2 z3 z5 z6
             have HF03 := Lib.hid (HF02.out.trans (hf3.any _))
             have hWF : Fr No w3 ((w3.alloc (Obj.cells (WorkS.vals ⟨x.n, false, false, clock + x.mins, x.code, 0⟩).toArray 80)).alloc (Obj.cells #[.pointer (some ⟨w3.heap.size, 0, none⟩)] 81)) := ((Fr.refl No w3).alloc _).alloc _
             have HWF := Lib.hid hWF
             have HB5 := Lib.hid ((Blk.new w3 80 (WorkS.vals ⟨x.n, false, false, clock + x.mins, x.code, 0⟩)).alloc (Obj.cells #[.pointer (some ⟨w3.heap.size, 0, none⟩)] 81))
             have hV5 := Blk.new (w3.alloc (Obj.cells (WorkS.vals ⟨x.n, false, false, clock + x.mins, x.code, 0⟩).toArray 80)) 81 [.pointer (some ⟨w3.heap.size, 0, none⟩)]
             rw [World.size_alloc] at hV5
             have HV5 := Lib.hid hV5
             have HNE5 := Lib.hid (show (Value.slice A (a).l.length cA).ownBlock ≠ some (w3.heap.size + 1) from fun e => by have := HA3.out.lt _ (.inr (.inr e)); omega)
             clear hf3 HX3 hWF hV5)
          | (go_at_call 42
             refine (insert_len _ (bs) (a).l.length P w3.heap.size (w3.heap.size + 1) _ HA3.out.len (own_fr0 HA3.out.row HWF.out) (by omega) hPl HV5.out HNE5.out).mono ?_
             rintro e w6 ⟨v6, rfl, ho6, hf6, hat6⟩
             have HADD := Lib.hid (AgAt.addWork (x := ⟨x.n, false, false, clock + x.mins, x.code, 0⟩) HA3.out hPl (by omega) (Nat.le_refl _) HWF.out HB5.out ho6 hf6 hat6)
             have HFF6 := Lib.hid ((HF03.out.trans (HWF.out.any _)).step hf6 fun k hk => HNF.out k (.inr (.inr hk.symm)))
             have HN6 := Lib.hid ((HN3.out.fr0 HWF.out).fr hf6 (fun b cur fr hb e => by
               obtain ⟨cur', hc'⟩ := row_type (own_fr0 HA3.out.row HWF.out) b e.symm
               rw [hc'] at hb
               injection hb with hb
               injection hb with _ hb
               exact absurd hb (by decide)))
             have hq6 := (HA3.out.fr0 HWF.out).blk.fr hf6 (fun e => HA3.out.row_ne e.symm rfl)
             have HQ6 := Lib.hid hq6
             have f2 := hq6.cell 2
             have f4 := hq6.cell 4
             have fl := hq6.lt
             have fz := hq6.frozens
             simp only [List.getElem?_cons_zero, List.getElem?_cons_succ] at f2 f4
             have HAT6 := Lib.hid hat6
             have HSZ := Lib.hid (show w.heap.size ≤ w3.heap.size from HF03.out.size)
             obtain ⟨A6, c6, rfl, _⟩ := own_shape ho6
             clear hq6 ho6 hf6 hat6))
        exact bodyPost_ret (agstart_res rfl rfl) rfl (by
          rw [HST.out, HTL.out, HGO.out]
          have h8 := HADD.out.setBegun ((a).begun + 1)
          rw [show (((a).begun + 1 : Nat) : Int) = ((a).begun : Int) + 1 by omega] at h8
          have hqf := HNF.out q (.inl rfl)
          have hF9 := (HFF6.out.setCell (p := ⟨q, 2, none⟩) hqf (.slice A6 ((bs).length + 1) c6)).setCell (p := ⟨q, 4, none⟩) hqf (.int .i64 (((a).begun : Int) + 1))
          refine ⟨_, _, ⟨some ⟨w1.heap.size, 0, none⟩, 1, rfl, ?_⟩, h8, hF9, AgF_ins HNF.out HSZ.out (by have := HSZ.out; simp only [World.size_alloc]; omega) HAT6.out⟩
          rw [← HME.out.me, ← HME.out.oth]
          exact (HN6.out.far HQ6.out (by decide) (p := ⟨q, 2, none⟩) rfl _).far (HQ6.out.set_ 2 _) (by decide) (p := ⟨q, 4, none⟩) rfl _)
end Go.Proofs.Ytohnchkoldbpcaa

/- agent: start that forgets. -/
namespace Go.Proofs.Ytohnchkoldbpcaa
open Go Go.RowKit Go.Proofs

theorem own_low {w : World} {base n size : Nat} {e : TypeId} {v : Value} {xs : List Value} (h : w.ownsRow base e size v n xs) : w.ownsRow 0 e size v n xs := by
  refine ⟨h.1, ?_⟩
  rcases h.2 with h | ⟨g, cap, cur, h1, _, h2⟩
  · exact .inl h
  · exact .inr ⟨g, cap, cur, h1, Nat.zero_le _, h2⟩
theorem own_none {w : World} {base n c size : Nat} {e : TypeId} {xs : List Value} (h : w.ownsRow base e size (.slice none n c) n xs) : n = 0 ∧ c = 0 := by
  rcases h.2 with ⟨e, h⟩ | ⟨_, _, _, e, _⟩
  · injection e with _ _ e
    exact ⟨h, e⟩
  · injection e with e; cases e
theorem slice_ptr {A : Option Addr} {n c : Nat} (kl : IntKind) (lo : Nat) (h1 : lo ≤ n) (h2 : n ≤ c) (w : World) :
    (Instr.slice 72 (.slice A n c) (some (.int kl (lo : Int))) none none).run Try.prog w = .ok (.slice (if c = lo then A else A.map (·.add (lo * 1))) (n - lo) (c - lo)) w := by
  obtain ⟨i, hi', hz, hs, hb⟩ := info_parts ptr1_info
  rw [run_slice_l (P := Try.prog) (w := w) 72 A n c (by kernel_rfl) kl lo (by omega) (by omega)]
  have e5 : Try.prog.elem 72 = 81 := by kernel_rfl
  rw [e5]
  simp [sizeOf, typeInfo, hi', hs, sliced]
theorem clone_any (A : Option Addr) (n c : Nat) (bs : List Nat) (w : World) (hs : Sl w 81 1 A n (ptrV bs)) (hn : n ≤ 2147483647) (h0 : A = none → n = 0 ∧ c = 0) :
    Calls Try.prog 41 #[.slice A n c] w fun e w' => ∃ v, e = .returned v ∧ w'.ownsRow w.heap.size 81 1 v n (ptrV bs) ∧ Fr No w w' := by
  cases A with
  | none =>
    obtain ⟨rfl, rfl⟩ := h0 rfl
    refine (clone_nil w).mono ?_
    rintro e w' ⟨rfl, hf⟩
    refine ⟨_, rfl, ?_, hf⟩
    rw [hs.of_zero]
    exact World.ownsRow_nil _ _ _ _
  | some a => exact clone_some a n c bs w hs hn
set_option maxRecDepth 100000 in
set_option maxHeartbeats 4000000 in
theorem agstart_forget (q : Nat) (u : Value) (bs : List Nat) (a : AgS) (x : Msg) (clock : Int) (w : World) (H : AgAt w q u bs a) (hs : SortedA a.l) (hl : a.l.length ≤ 1000000) (hbg : a.begun ≤ 1000000) (hc0 : 0 ≤ clock) (hc1 : clock ≤ 5258966399)
    (hr : isRunB x.n = true) (hm0 : 0 ≤ x.mins) (hm : x.mins ≤ 10080) (hlow : a.low < x.low) :
    Calls Try.prog 28 #[.pointer (some ⟨q, 0, none⟩), x.val, .int .i64 clock] w fun e w' => StOut w w' q u bs e (a.start x clock) := by
  obtain ⟨A0, cA0, rfl, hcA0⟩ := own_shape H.row
  obtain ⟨k, hk⟩ : ∃ k, k = posA x.low a.l := ⟨_, rfl⟩
  have hkl : k ≤ a.l.length := by rw [hk]; exact posA_le _ _
  obtain ⟨b, hb⟩ : ∃ b : AgS, b = { a with low := x.low, l := a.l.drop k } := ⟨_, rfl⟩
  obtain ⟨bs', hbs'⟩ : ∃ bs', bs' = bs.drop k := ⟨_, rfl⟩
  have HST := Lib.hid (show a.start x clock = stTail a b x clock by
    unfold AgS.start
    rw [if_pos (by rw [hr]; simpa using hm)]
    show stTail a (a.forget x.low) x clock = _
    unfold AgS.forget
    rw [if_pos hlow, ← hk, hb])
  have HBE := Lib.hid hb
  have HBS := Lib.hid hbs'
  have HK := Lib.hid hk
  have hm2 : decide (10080 < x.mins) = false := by simp only [decide_eq_false_iff_not]; omega
  have HH := Lib.hid H
  have HS0 := Lib.hid hs
  have HS : Hid (SortedA b.l) := Lib.hid (by rw [hb]; exact hs.dropS k)
  have HLB : Hid (b.l.length ≤ 1000000) := Lib.hid (by rw [hb]; simp only [List.length_drop]; omega)
  have HBG : Hid (b.begun ≤ 1000000) := Lib.hid (by rw [hb]; exact hbg)
  have HME : Hid (SameEnds a b) := Lib.hid (by rw [hb]; exact ⟨rfl, rfl⟩)
  have HR := Lib.hid hr
  have HX := Lib.hid (Blk.new w 26 x.vals)
  have d3 := H.blk.cell 3
  have dl := H.blk.lt
  simp only [List.getElem?_cons_zero, List.getElem?_cons_succ] at d3
  have hlo : decide (a.low < x.low) = true := by simpa using hlow
  have hk0 : (0 : Int) ≤ (k : Int) := by omega
  have hsl := fun V => slice_ptr (A := A0) (n := a.l.length) (c := cA0) .i64 k hkl hcA0 V
  obtain ⟨A1, hA1⟩ : ∃ A1, A1 = (if cA0 = k then A0 else A0.map (·.add (k * 1))) := ⟨_, rfl⟩
  rw [← hA1] at hsl
  have HA1 := Lib.hid hA1
  have HN0 := Lib.hid (show A1 = none → a.l.length - k = 0 ∧ cA0 - k = 0 from fun e => by
    have e0 : A0 = none := by
      rw [hA1] at e
      split at e
      · exact e
      · cases A0 with
        | none => rfl
        | some a => cases e
    subst e0
    have := own_none H.row
    omega)
  have HCA := Lib.hid hcA0
  have HLL := Lib.hid hl
  have HKL := Lib.hid hkl
  clear H hs hr hlow hb hbs' hk hA1 hcA0 hl hbg
  go_enter Try.func28, Try.ntmps28
  go_wp2_with (go_at_call 22; refine (isRun_any _ _).mono ?_; rintro e w1 ⟨he, hw1⟩; rw [HR.out] at he; obtain rfl := he; subst w1)
  refine wp_region_o [(0, 0), (2, 0), (3, 0), (4, 0), (1, 1), (5, 1), (6, 0)] (by kernel_rfl) (by kernel_rfl) ?_
  repeat (first
    | (apply wpO_pure rfl rfl; (focus (intro w'; go_simp; (try rfl); done)); try simp only [Act.put, List.setIfInBounds_toArray, List.set_cons_zero, List.set_cons_succ])
    | (apply wpO_read rfl rfl; (focus (intro w' hf' hs'; (try simp only [World.size_drew, World.cell?_drew, World.size_alloc, World.size_setCell] at hs'); go_simp; (try rfl); done)); try simp only [Act.put, List.setIfInBounds_toArray, List.set_cons_zero, List.set_cons_succ])
    | (apply wpO_skip (by decide) rfl rfl; try simp only [Act.put, List.setIfInBounds_toArray, List.set_cons_zero, List.set_cons_succ]))
  refine wpO_nil ?_
  generalize hW : World.drew _ = V
  have HF0 : Hid (Fr (AgF q (.slice A0 a.l.length cA0) bs) w V) := Lib.hid (by subst hW; exact (by (repeat (first | exact Fr.refl _ _ | assumption | refine Fr.drew ?_ | refine Fr.drewL ?_ | refine Fr.alloc ?_ _))))
  have HA := Lib.hid (show AgAt V q (.slice A0 a.l.length cA0) bs a by subst hW; exact HH.out.fr0 (by (repeat (first | exact Fr.refl _ _ | assumption | refine Fr.drew ?_ | refine Fr.drewL ?_ | refine Fr.alloc ?_ _))))
  have HX := Lib.hid (show Blk V w.heap.size 26 x.vals by subst hW; exact HX.out)
  have HQW := Lib.hid (show q < w.heap.size from HH.out.blk.lt)
  clear hW d3 dl hlo HH HR
  have HF0SZ := Lib.hid HF0.out.size
  have d3 := HA.out.blk.cell 3
  have dl := HA.out.blk.lt
  have dz := HA.out.blk.frozens
  have x3 := HX.out.cell 4
  have xl := HX.out.lt
  simp only [List.getElem?_cons_zero, List.getElem?_cons_succ] at d3 x3
  have hA9 := HA.out.setLow x.low
  have HA9 := Lib.hid hA9
  have e3 := hA9.blk.cell 3
  have e4 := hA9.blk.lt
  simp only [List.getElem?_cons_zero, List.getElem?_cons_succ] at e3
  clear hA9
  go_wp2_with (first
    | (go_at_call 29
       refine (find_any q _ bs _ x.low _ HA9.out HS0.out).mono ?_
       rintro e w3 ⟨he, hf3⟩
       rw [← HK.out] at he
       obtain rfl := he
       have HA3 := Lib.hid (HA9.out.fr0 hf3)
       have HF3 := Lib.hid hf3
       have HF3S := Lib.hid (show V.heap.size ≤ w3.heap.size by have := hf3.size; simpa using this)
       have HX3 := Lib.hid ((HX.out.fr (fr_cell (S := fun j => j = q) rfl) (fun e => by have := HQW.out; omega)).fr hf3 (fun h => h))
       have c2 := HA3.out.blk.cell 2
       have cl := HA3.out.blk.lt
       simp only [List.getElem?_cons_zero, List.getElem?_cons_succ] at c2
       have HSL3 := Lib.hid ((Sl.of_own HA3.out.row).drop (k := k) HKL.out HCA.out)
       clear hf3)
    | (go_at_call 41
       refine (clone_any A1 (a.l.length - k) (cA0 - k) (bs.drop k) _ (by have h := HSL3.out; rw [← HA1.out] at h; simpa using h) (by have := HLL.out; omega) HN0.out).mono ?_
       rintro e w4 ⟨v4, rfl, ho4, hf4⟩
       have HA4 := Lib.hid (HA3.out.fr0 hf4)
       have HO4 := Lib.hid ho4
       have HF4 := Lib.hid hf4
       have HX4 := Lib.hid (HX3.out.fr hf4 (fun h => h))
       have f2 := HA4.out.blk.cell 2
       have fl := HA4.out.blk.lt
       have fz := HA4.out.blk.frozens
       simp only [List.getElem?_cons_zero, List.getElem?_cons_succ] at f2
       obtain ⟨A6, c6, rfl, _⟩ := own_shape ho4
       clear hf4 ho4))
  generalize hQQ : World.setCell w4 _ _ = W
  have HA := Lib.hid (show AgAt W q (.slice A6 (a.l.length - k) c6) bs' b by
    subst hQQ
    rw [HBE.out, HBS.out]
    exact HA4.out.setDrop (own_low HO4.out))
  have HF43 : Hid (Fr (fun j => j = q) V w4) := Lib.hid (((fr_cell (S := fun j => j = q) rfl).trans (HF3.out.any _)).trans (HF4.out.any _))
  have HF0 : Hid (Fr (AgF q (.slice A0 a.l.length cA0) bs) w W) := Lib.hid (by
    subst hQQ
    exact (HF0.out.step (HF43.out.trans (fr_cell (S := fun j => j = q) rfl)) fun j hj => .inl (.inl hj)))
  have HX : Hid (Blk W w.heap.size 26 x.vals) := Lib.hid (by subst hQQ; exact HX4.out.fr (fr_cell (S := fun j => j = q) rfl) (fun e => by have := HQW.out; omega))
  have HNF : Hid (∀ j, AgF q (.slice A6 (a.l.length - k) c6) bs' j → AgF q (.slice A0 a.l.length cA0) bs j ∨ w.heap.size ≤ j) := Lib.hid (by
    rintro j (h | h | h)
    · exact .inl (.inl h)
    · rw [HBS.out] at h
      exact .inl (.inr (.inl (List.mem_of_mem_drop h)))
    · exact .inr (Nat.le_trans HF0SZ.out (Nat.le_trans HF3S.out (own_size HO4.out j h).1)))
  obtain ⟨A, cA, hAA, _⟩ := own_shape HA.out.row
  rw [hAA] at HA HNF
  clear hAA hQQ d3 dl dz x3 xl e3 e4 c2 cl f2 fl fz HA3 HA4 HA9 HX3 HX4 HSL3 HO4 HF3 HF4 HF43 hsl
  have d0 := HA.out.blk.cell 0
  have d1 := HA.out.blk.cell 1
  have d3 := HA.out.blk.cell 3
  have dl := HA.out.blk.lt
  have x3 := HX.out.cell 3
  have xl := HX.out.lt
  simp only [List.getElem?_cons_zero, List.getElem?_cons_succ] at d0 d1 d3 x3
  by_cases hnl : x.n < (b).low
  · have hnl2 : decide (x.n < (b).low) = true := by simpa using hnl
    have HR0 := Lib.hid (show stTail a (b) x clock = (b, [], 0) by unfold stTail; rw [if_pos hnl])
    clear hnl
    try go_wp2
    refine wp_region_o [(0, 0), (2, 0), (3, 0), (4, 0), (1, 1), (5, 1), (6, 0)] (by kernel_rfl) (by kernel_rfl) ?_
    repeat (first
      | (apply wpO_pure rfl rfl; (focus (intro w'; go_simp; (try rfl); done)); try simp only [Act.put, List.setIfInBounds_toArray, List.set_cons_zero, List.set_cons_succ])
      | (apply wpO_read rfl rfl; (focus (intro w' hf' hs'; (try simp only [World.size_drew, World.cell?_drew, World.size_alloc, World.size_setCell] at hs'); go_simp; (try rfl); done)); try simp only [Act.put, List.setIfInBounds_toArray, List.set_cons_zero, List.set_cons_succ])
      | (apply wpO_skip (by decide) rfl rfl; try simp only [Act.put, List.setIfInBounds_toArray, List.set_cons_zero, List.set_cons_succ]))
    refine wpO_nil ?_
    go_wp2
    exact bodyPost_ret (agstart_res rfl rfl) rfl (by rw [HST.out, HR0.out]; exact ⟨_, bs', AgOut.nil _ _, HA.out.fr0 (by (repeat (first | exact Fr.refl _ _ | assumption | refine Fr.drew ?_ | refine Fr.drewL ?_ | refine Fr.alloc ?_ _))), HF0.out.drew, HNF.out⟩)
  · have hnl2 : decide (x.n < (b).low) = false := by simpa using hnl
    have HTL : Hid (stTail a (b) x clock = stGo a (b) x clock) := Lib.hid (by unfold stTail; rw [if_neg hnl]; rfl)
    clear hnl
    try go_wp2
    refine wp_region_o [(0, 0), (2, 0), (3, 0), (4, 0), (1, 1), (5, 1), (6, 0)] (by kernel_rfl) (by kernel_rfl) ?_
    repeat (first
      | (apply wpO_pure rfl rfl; (focus (intro w'; go_simp; (try rfl); done)); try simp only [Act.put, List.setIfInBounds_toArray, List.set_cons_zero, List.set_cons_succ])
      | (apply wpO_read rfl rfl; (focus (intro w' hf' hs'; (try simp only [World.size_drew, World.cell?_drew, World.size_alloc, World.size_setCell] at hs'); go_simp; (try rfl); done)); try simp only [Act.put, List.setIfInBounds_toArray, List.set_cons_zero, List.set_cons_succ])
      | (apply wpO_skip (by decide) rfl rfl; try simp only [Act.put, List.setIfInBounds_toArray, List.set_cons_zero, List.set_cons_succ]))
    refine wpO_nil ?_
    go_wp2
    refine wp_region_o [(0, 0), (1, 0), (2, 0), (4, 0), (3, 1), (5, 1), (6, 2), (7, 2), (8, 0)] (by kernel_rfl) (by kernel_rfl) ?_
    repeat (first
      | (apply wpO_pure rfl rfl; (focus (intro w'; go_simp; (try rfl); done)); try simp only [Act.put, List.setIfInBounds_toArray, List.set_cons_zero, List.set_cons_succ])
      | (apply wpO_read rfl rfl; (focus (intro w' hf' hs'; (try simp only [World.size_drew, World.cell?_drew, World.size_alloc, World.size_setCell] at hs'); go_simp; (try rfl); done)); try simp only [Act.put, List.setIfInBounds_toArray, List.set_cons_zero, List.set_cons_succ])
      | (apply wpO_skip (by decide) rfl rfl; try simp only [Act.put, List.setIfInBounds_toArray, List.set_cons_zero, List.set_cons_succ]))
    refine wpO_loudE rfl fun K hK => ?_
    go_simp
    refine (say_any _ _ _ _ _ _).mono ?_
    rintro e w1 ⟨rfl, hf1⟩
    refine hK _ _ ⟨hf1, ?_⟩
    clear hK K
    refine wpO_loudE rfl fun K hK => ?_
    go_simp
    refine hK _ _ ⟨by (repeat (first | exact Fr.refl _ _ | assumption | refine Fr.drew ?_ | refine Fr.drewL ?_ | refine Fr.alloc ?_ _)), ?_⟩
    clear hK K
    repeat (first
      | (apply wpO_pure rfl rfl; (focus (intro w'; go_simp; (try rfl); done)); try simp only [Act.put, List.setIfInBounds_toArray, List.set_cons_zero, List.set_cons_succ])
      | (apply wpO_read rfl rfl; (focus (intro w' hf' hs'; (try simp only [World.size_drew, World.cell?_drew, World.size_alloc, World.size_setCell] at hs'); go_simp; (try rfl); done)); try simp only [Act.put, List.setIfInBounds_toArray, List.set_cons_zero, List.set_cons_succ])
      | (apply wpO_skip (by decide) rfl rfl; try simp only [Act.put, List.setIfInBounds_toArray, List.set_cons_zero, List.set_cons_succ]))
    refine wpO_nil ?_
    generalize hW2 : World.alloc w1 _ = W2
    have HF2 : Hid (Fr No W W2) := Lib.hid (by subst hW2; exact ((((Fr.refl No W).drew).drew.trans hf1).alloc _))
    have HN2 : Hid (Sl W2 26 8 (some ⟨w1.heap.size, 0, none⟩) 1 (sayM (b).me (b).other 2 x.n 0).vals) := Lib.hid (by subst hW2; exact Sl.of_new w1 26 8 1 _ _ rfl rfl)
    have HA2 := Lib.hid (HA.out.fr0 HF2.out)
    have HX2 := Lib.hid (HX.out.fr HF2.out (fun h => h))
    have HF02 := Lib.hid (HF0.out.trans (HF2.out.any _))
    clear hW2 hf1 d0 d1 d3 dl x3 xl HF2 HF0 HA HX
    have x3 := HX2.out.cell 3
    have xl := HX2.out.lt
    simp only [List.getElem?_cons_zero, List.getElem?_cons_succ] at x3
    obtain ⟨P, hP⟩ : ∃ P, P = posA x.n (b).l := ⟨_, rfl⟩
    have HP := Lib.hid hP
    have hPl : P ≤ (b).l.length := by rw [hP]; exact posA_le _ _
    have hP0 : (0 : Int) ≤ (P : Int) := by omega
    have hL0 : (0 : Int) ≤ ((b).l.length : Int) := by omega
    have hPi : (P : Int) ≤ ((b).l.length : Int) := by omega
    clear hP
    cases hat : atA x.n (b).l with
    | some y =>
      have HAT := Lib.hid hat
      have hy := (atA_some hat).1
      rw [← HP.out] at hy
      have hPn : P < (b).l.length := (List.getElem?_eq_some_iff.1 hy).1
      have hP1 : (P : Int) < ((b).l.length : Int) := by omega
      obtain ⟨b0, hb0⟩ : ∃ b0, (bs')[P]? = some b0 := ⟨_, List.getElem?_eq_getElem (by rw [HA2.out.len]; exact hPn)⟩
      have HY := Lib.hid hy
      have HB0 := Lib.hid hb0
      obtain ⟨g0, o0, hA0, hg0, hcell, _⟩ := (Sl.of_own HA2.out.row).cells (by omega)
      subst hA0
      clear hat hy hb0 hcell hg0
      by_cases hov : y.over = true
      · have HGO := Lib.hid (show stGo a (b) x clock = ({ (b) with l := (b).l.set P { y with over := true, sent := clock } }, [sayM a.me a.other 3 y.run y.code], 0) by unfold stGo; rw [HAT.out, HP.out]; simp only [hov]; rfl)
        go_wp2_with (first
          | (go_at_call 29
             refine (find_any q _ (bs') (b) x.n _ (HA2.out.fr0 (by (repeat (first | exact Fr.refl _ _ | assumption | refine Fr.drew ?_ | refine Fr.drewL ?_ | refine Fr.alloc ?_ _)))) HS.out).mono ?_
             rintro e w3 ⟨he, hf3⟩
             rw [HAT.out, ← HP.out] at he
             obtain rfl := he
             have HF3 := Lib.hid hf3
             have HA3 := Lib.hid (HA2.out.fr0 hf3)
             have hbl := HA3.out.work P b0 y HB0.out HY.out
             have e1 := hbl.cell 1
             have el := hbl.lt
             have c2 := HA3.out.blk.cell 2
             have cl := HA3.out.blk.lt
             simp only [List.getElem?_cons_zero, List.getElem?_cons_succ, hov] at e1 c2
             obtain ⟨g1, o1, hA1, hg1, hcell, _⟩ := (Sl.of_own HA3.out.row).cells (by omega)
             injection hA1 with hA1
             injection hA1 with hA1 hA2
             subst hA1 hA2
             have k0 := hcell P (.pointer (some ⟨b0, 0, none⟩)) (by simp [HB0.out])
             clear hbl hcell hf3)
          | (go_at_call 30
             refine (tell_any q _ (bs') (b) _ HA3.out HB0.out HY.out clock).mono ?_
             rintro e w4 ⟨rfl, hA4, hf4⟩))
        exact bodyPost_ret (agstart_res rfl rfl) rfl (by
          rw [HST.out, HTL.out, HGO.out]
          refine ⟨_, _, ⟨some ⟨w4.heap.size, 0, none⟩, 1, rfl, ?_⟩, hA4.fr0 ((Fr.refl No w4).alloc _), ?_, HNF.out⟩
          · rw [← HME.out.me, ← HME.out.oth]
            exact Sl.of_new w4 26 8 1 _ _ rfl rfl
          · refine Fr.alloc ?_ _
            exact (HF02.out.trans (HF3.out.any _)).step hf4 fun k hk => (by
              have hk : k = b0 := hk
              subst hk
              exact HNF.out _ (.inr (.inl (List.mem_of_getElem? HB0.out)))))
      · have hov : y.over = false := by simpa using hov
        have HGO := Lib.hid (show stGo a (b) x clock = (b, [sayM a.me a.other 2 x.n 0], 0) by unfold stGo; rw [HAT.out]; simp only [hov]; rfl)
        go_wp2_with (first
          | (go_at_call 29
             refine (find_any q _ (bs') (b) x.n _ (HA2.out.fr0 (by (repeat (first | exact Fr.refl _ _ | assumption | refine Fr.drew ?_ | refine Fr.drewL ?_ | refine Fr.alloc ?_ _)))) HS.out).mono ?_
             rintro e w3 ⟨he, hf3⟩
             rw [HAT.out, ← HP.out] at he
             obtain rfl := he
             have HF3 := Lib.hid hf3
             have HA3 := Lib.hid (HA2.out.fr0 hf3)
             have hbl := HA3.out.work P b0 y HB0.out HY.out
             have e1 := hbl.cell 1
             have el := hbl.lt
             have c2 := HA3.out.blk.cell 2
             have cl := HA3.out.blk.lt
             simp only [List.getElem?_cons_zero, List.getElem?_cons_succ, hov] at e1 c2
             obtain ⟨g1, o1, hA1, hg1, hcell, _⟩ := (Sl.of_own HA3.out.row).cells (by omega)
             injection hA1 with hA1
             injection hA1 with hA1 hA2
             subst hA1 hA2
             have k0 := hcell P (.pointer (some ⟨b0, 0, none⟩)) (by simp [HB0.out])
             clear hbl hcell hf3))
        exact bodyPost_ret (agstart_res rfl rfl) rfl (by
          rw [HST.out, HTL.out, HGO.out]
          refine ⟨_, _, ⟨some ⟨w1.heap.size, 0, none⟩, 1, rfl, ?_⟩, HA3.out, HF02.out.trans (HF3.out.any _), HNF.out⟩
          rw [← HME.out.me, ← HME.out.oth]
          exact (HN2.out.fr0 HF3.out))
    | none =>
      have HAT := Lib.hid hat
      clear hat
      by_cases hfull : 64 ≤ (b).l.length
      · have HGO := Lib.hid (show stGo a (b) x clock = (b, [], 4) by unfold stGo; rw [HAT.out]; simp only; rw [if_pos hfull])
        have hfull1 : decide ((64 : Int) ≤ ((b).l.length : Int)) = true := by simp only [decide_eq_true_eq]; omega
        go_wp2_with (go_at_call 29
                     refine (find_any q _ (bs') (b) x.n _ (HA2.out.fr0 (by (repeat (first | exact Fr.refl _ _ | assumption | refine Fr.drew ?_ | refine Fr.drewL ?_ | refine Fr.alloc ?_ _)))) HS.out).mono ?_
                     rintro e w3 ⟨he, hf3⟩
                     rw [HAT.out, ← HP.out] at he
                     obtain rfl := he
                     have HF3 := Lib.hid hf3
                     have HA3 := Lib.hid (HA2.out.fr0 hf3)
                     have c2 := HA3.out.blk.cell 2
                     have cl := HA3.out.blk.lt
                     simp only [List.getElem?_cons_zero, List.getElem?_cons_succ] at c2
                     clear hf3)
        exact bodyPost_ret (agstart_res rfl rfl) rfl (by
          rw [HST.out, HTL.out, HGO.out]
          exact ⟨_, _, AgOut.nil _ _, HA3.out, HF02.out.trans (HF3.out.any _), HNF.out⟩)
      · have HGO := Lib.hid (show stGo a (b) x clock = ({ (b) with l := insA (b).l P ⟨x.n, false, false, clock + x.mins, x.code, 0⟩, begun := (b).begun + 1 }, [sayM a.me a.other 2 x.n 0], 0) by unfold stGo; rw [HAT.out, HP.out]; simp only; rw [if_neg hfull])
        have hfull1 : decide ((64 : Int) ≤ ((b).l.length : Int)) = false := by simp only [decide_eq_false_iff_not]; omega
        have hfull2 : ¬ (64 ≤ (b).l.length) := hfull
        have hcm : IntKind.i64.wrap (clock + x.mins) = clock + x.mins := IntWalk.i64_in _ (by omega)
        have hbn : IntKind.i64.wrap (((b).begun : Int) + 1) = ((b).begun : Int) + 1 := IntWalk.i64_in _ (by have := HBG.out; omega)
        go_wp2_with (first
          | (go_at_call 29
             refine (find_any q _ (bs') (b) x.n _ (HA2.out.fr0 (by (repeat (first | exact Fr.refl _ _ | assumption | refine Fr.drew ?_ | refine Fr.drewL ?_ | refine Fr.alloc ?_ _)))) HS.out).mono ?_
             rintro e w3 ⟨he, hf3⟩
             rw [HAT.out, ← HP.out] at he
             obtain rfl := he
             have HF3 := Lib.hid hf3
             have HA3 := Lib.hid (HA2.out.fr0 hf3)
             have HN3 := Lib.hid (HN2.out.fr0 hf3)
             have HX3 := HX2.out.fr hf3 (fun h => h)
             have z3 := HX3.cell 3
             have z5 := HX3.cell 5
             have z6 := HX3.cell 6
             have zl := HX3.lt
             have c2 := HA3.out.blk.cell 2
             have cl := HA3.out.blk.lt
             simp only [List.getElem?_cons_zero, List.getElem?_cons_succ] at c2 z3 z5 z6
             have HF03 := Lib.hid (HF02.out.trans (hf3.any _))
             have hWF : Fr No w3 ((w3.alloc (Obj.cells (WorkS.vals ⟨x.n, false, false, clock + x.mins, x.code, 0⟩).toArray 80)).alloc (Obj.cells #[.pointer (some ⟨w3.heap.size, 0, none⟩)] 81)) := ((Fr.refl No w3).alloc _).alloc _
             have HWF := Lib.hid hWF
             have HB5 := Lib.hid ((Blk.new w3 80 (WorkS.vals ⟨x.n, false, false, clock + x.mins, x.code, 0⟩)).alloc (Obj.cells #[.pointer (some ⟨w3.heap.size, 0, none⟩)] 81))
             have hV5 := Blk.new (w3.alloc (Obj.cells (WorkS.vals ⟨x.n, false, false, clock + x.mins, x.code, 0⟩).toArray 80)) 81 [.pointer (some ⟨w3.heap.size, 0, none⟩)]
             rw [World.size_alloc] at hV5
             have HV5 := Lib.hid hV5
             have HNE5 := Lib.hid (show (Value.slice A (b).l.length cA).ownBlock ≠ some (w3.heap.size + 1) from fun e => by have := HA3.out.lt _ (.inr (.inr e)); omega)
             clear hf3 HX3 hWF hV5)
          | (go_at_call 42
             refine (insert_len _ (bs') (b).l.length P w3.heap.size (w3.heap.size + 1) _ HA3.out.len (own_fr0 HA3.out.row HWF.out) (by omega) hPl HV5.out HNE5.out).mono ?_
             rintro e w6 ⟨v6, rfl, ho6, hf6, hat6⟩
             have HADD := Lib.hid (AgAt.addWork (x := ⟨x.n, false, false, clock + x.mins, x.code, 0⟩) HA3.out hPl (by omega) (Nat.le_refl _) HWF.out HB5.out ho6 hf6 hat6)
             have HFF6 := Lib.hid ((HF03.out.trans (HWF.out.any _)).step hf6 fun k hk => HNF.out k (.inr (.inr hk.symm)))
             have HN6 := Lib.hid ((HN3.out.fr0 HWF.out).fr hf6 (fun b cur fr hb e => by
               obtain ⟨cur', hc'⟩ := row_type (own_fr0 HA3.out.row HWF.out) b e.symm
               rw [hc'] at hb
               injection hb with hb
               injection hb with _ hb
               exact absurd hb (by decide)))
             have hq6 := (HA3.out.fr0 HWF.out).blk.fr hf6 (fun e => HA3.out.row_ne e.symm rfl)
             have HQ6 := Lib.hid hq6
             have f2 := hq6.cell 2
             have f4 := hq6.cell 4
             have fl := hq6.lt
             have fz := hq6.frozens
             simp only [List.getElem?_cons_zero, List.getElem?_cons_succ] at f2 f4
             have HAT6 := Lib.hid hat6
             have HSZ := Lib.hid (show w.heap.size ≤ w3.heap.size from HF03.out.size)
             obtain ⟨A6, c6, rfl, _⟩ := own_shape ho6
             clear hq6 ho6 hf6 hat6))
        exact bodyPost_ret (agstart_res rfl rfl) rfl (by
          rw [HST.out, HTL.out, HGO.out]
          have h8 := HADD.out.setBegun ((b).begun + 1)
          rw [show (((b).begun + 1 : Nat) : Int) = ((b).begun : Int) + 1 by omega] at h8
          have hqf := HNF.out q (.inl rfl)
          have hF9 := (HFF6.out.setCell (p := ⟨q, 2, none⟩) hqf (.slice A6 ((bs').length + 1) c6)).setCell (p := ⟨q, 4, none⟩) hqf (.int .i64 (((b).begun : Int) + 1))
          refine ⟨_, _, ⟨some ⟨w1.heap.size, 0, none⟩, 1, rfl, ?_⟩, h8, hF9, AgF_ins HNF.out HSZ.out (by have := HSZ.out; simp only [World.size_alloc]; omega) HAT6.out⟩
          rw [← HME.out.me, ← HME.out.oth]
          exact (HN6.out.far HQ6.out (by decide) (p := ⟨q, 2, none⟩) rfl _).far (HQ6.out.set_ 2 _) (by decide) (p := ⟨q, 4, none⟩) rfl _)
theorem agstart_any (q : Nat) (u : Value) (bs : List Nat) (a : AgS) (x : Msg) (clock : Int) (w : World) (H : AgAt w q u bs a) (hs : SortedA a.l) (hl : a.l.length ≤ 1000000) (hbg : a.begun ≤ 1000000) (hc : isClockB clock = true) (hm0 : 0 ≤ x.mins) :
    Calls Try.prog 28 #[.pointer (some ⟨q, 0, none⟩), x.val, .int .i64 clock] w fun e w' => StOut w w' q u bs e (a.start x clock) := by
  have hclk : 0 ≤ clock ∧ clock ≤ 5258966399 := by unfold isClockB at hc; simpa using hc
  by_cases hb : (isRunB x.n && decide (x.mins ≤ 10080)) = true
  · simp only [Bool.and_eq_true, decide_eq_true_eq] at hb
    by_cases hlow : a.low < x.low
    · exact agstart_forget q u bs a x clock w H hs hl hbg hclk.1 hclk.2 hb.1 hm0 hb.2 hlow
    · exact agstart_keep q u bs a x clock w H hs hl hbg hclk.1 hclk.2 hb.1 hm0 hb.2 (by omega)
  · exact agstart_bad q u bs a x clock w H (by simpa using hb)
end Go.Proofs.Ytohnchkoldbpcaa

/- agent: Take. -/
namespace Go.Proofs.Ytohnchkoldbpcaa
open Go Go.RowKit Go.Proofs

theorem agtake_res {tmps : Array Value} {w : World} {v : Value} {e : Int} (h4 : tmps.getD 6 undef = v) (h5 : tmps.getD 7 undef = .int .i64 e) :
    (results Try.f9 tmps).run Try.prog w = .ok (.tuple #[v, .int .i64 e]) w := by
  simp only [Array.getD_eq_getD_getElem?] at h4 h5
  simp [results, Try.results9, go_sem, h4, h5]
theorem agtake_res2 {tmps : Array Value} {w : World} {v e : Value} (h4 : tmps.getD 6 undef = v) (h5 : tmps.getD 7 undef = e) :
    (results Try.f9 tmps).run Try.prog w = .ok (.tuple #[v, e]) w := by
  simp only [Array.getD_eq_getD_getElem?] at h4 h5
  simp [results, Try.results9, go_sem, h4, h5]
theorem agtake_nil (m : Msg) (clock : Int) (w : World) : Calls Try.prog 9 #[.pointer none, m.val, .int .i64 clock] w fun e w' => AgOut w' e [] 2 ∧ Fr No w w' := by
  go_enter Try.func9, Try.ntmps9
  go_wp2
  exact bodyPost_ret (agtake_res rfl rfl) rfl ⟨AgOut.nil _ _, by (repeat (first | exact Fr.refl _ _ | assumption | refine Fr.drew ?_ | refine Fr.drewL ?_ | refine Fr.alloc ?_ _))⟩
theorem heard_14 (me other : Int) (m : Msg) (A : Option Addr) (w : World) (h : Sl w 3 1 A 2 [.int .i64 1, .int .i64 4]) :
    Calls Try.prog 26 #[endV me other, m.val, .slice A 2 2] w fun e w' => e = .returned (.bool (heardB me other [1, 4] m)) ∧ Fr No w w' := heard_any me other m A 2 3 [1, 4] w h (by decide)
theorem heard_kind4 {me other : Int} {x : Msg} (h : heardB me other [1, 4] x = true) : x.kind = 1 ∨ x.kind = 4 := by
  unfold heardB at h
  simp only [Bool.and_eq_true, List.contains_eq_mem, decide_eq_true_eq, List.mem_cons, List.not_mem_nil, or_false] at h
  exact h.2
theorem heard_mins {me other : Int} {ks : List Int} {x : Msg} (h : heardB me other ks x = true) : 0 ≤ x.mins := by
  unfold heardB rightB inR at h
  simp only [Bool.and_eq_true, decide_eq_true_eq] at h
  omega
set_option maxRecDepth 100000 in
set_option maxHeartbeats 1000000 in
theorem agtake_not (q : Nat) (u : Value) (bs : List Nat) (a : AgS) (x : Msg) (clock : Int) (w : World) (H : AgAt w q u bs a) (hh : heardB a.me a.other [1, 4] x = false) :
    Calls Try.prog 9 #[.pointer (some ⟨q, 0, none⟩), x.val, .int .i64 clock] w fun e w' => AgOut w' e [] 1 ∧ Fr No w w' := by
  have HSL := Lib.hid (Sl.of_new (w.alloc (Obj.cells x.vals.toArray 26)) 3 1 2 #[.int .i64 1, .int .i64 4] [.int .i64 1, .int .i64 4] rfl rfl).drew
  have HH1 := Lib.hid (H.fr0 ((Fr.refl No w).alloc (Obj.cells x.vals.toArray 26)))
  have HX := Lib.hid (Blk.new w 26 x.vals)
  have HHD := Lib.hid hh
  have d0 := H.blk.cell 0
  have d1 := H.blk.cell 1
  have dl := H.blk.lt
  simp only [List.getElem?_cons_zero, List.getElem?_cons_succ] at d0 d1
  have HH := Lib.hid H
  clear hh H
  go_enter Try.func9, Try.ntmps9
  go_wp2
  refine wp_region_o [(0, 0), (1, 0), (2, 0), (3, 1), (4, 1), (5, 2), (6, 2), (7, 0), (8, 0)] (by kernel_rfl) (by kernel_rfl) ?_
  repeat (first
    | (apply wpO_pure rfl rfl; (focus (intro w'; go_simp; (try rfl); done)); try simp only [Act.put, List.setIfInBounds_toArray, List.set_cons_zero, List.set_cons_succ])
    | (apply wpO_read rfl rfl; (focus (intro w' hf' hs'; (try simp only [World.size_drew, World.cell?_drew, World.size_alloc, World.size_setCell] at hs'); go_simp; (try rfl); done)); try simp only [Act.put, List.setIfInBounds_toArray, List.set_cons_zero, List.set_cons_succ])
    | (apply wpO_skip (by decide) rfl rfl; try simp only [Act.put, List.setIfInBounds_toArray, List.set_cons_zero, List.set_cons_succ]))
  refine wpO_loudE rfl fun K hK => ?_
  go_simp
  refine hK _ _ ⟨by (repeat (first | exact Fr.refl _ _ | assumption | refine Fr.drew ?_ | refine Fr.drewL ?_ | refine Fr.alloc ?_ _)), ?_⟩
  clear hK K
  repeat (first
    | (apply wpO_pure rfl rfl; (focus (intro w'; go_simp; (try rfl); done)); try simp only [Act.put, List.setIfInBounds_toArray, List.set_cons_zero, List.set_cons_succ])
    | (apply wpO_read rfl rfl; (focus (intro w' hf' hs'; (try simp only [World.size_drew, World.cell?_drew, World.size_alloc, World.size_setCell] at hs'); go_simp; (try rfl); done)); try simp only [Act.put, List.setIfInBounds_toArray, List.set_cons_zero, List.set_cons_succ])
    | (apply wpO_skip (by decide) rfl rfl; try simp only [Act.put, List.setIfInBounds_toArray, List.set_cons_zero, List.set_cons_succ]))
  refine wpO_loudE rfl fun K hK => ?_
  go_simp
  refine (heard_14 a.me a.other x (some ⟨w.heap.size + 1, 0, none⟩) _ (by have := HSL.out; rw [World.size_alloc] at this; exact this)).mono ?_
  rintro e w1 ⟨he, hf1⟩
  rw [HHD.out] at he
  obtain rfl := he
  refine hK _ _ ⟨hf1, ?_⟩
  clear hK K
  repeat (first
    | (apply wpO_pure rfl rfl; (focus (intro w'; go_simp; (try rfl); done)); try simp only [Act.put, List.setIfInBounds_toArray, List.set_cons_zero, List.set_cons_succ])
    | (apply wpO_read rfl rfl; (focus (intro w' hf' hs'; (try simp only [World.size_drew, World.cell?_drew, World.size_alloc, World.size_setCell] at hs'); go_simp; (try rfl); done)); try simp only [Act.put, List.setIfInBounds_toArray, List.set_cons_zero, List.set_cons_succ])
    | (apply wpO_skip (by decide) rfl rfl; try simp only [Act.put, List.setIfInBounds_toArray, List.set_cons_zero, List.set_cons_succ]))
  refine wpO_nil ?_
  go_wp2
  exact bodyPost_ret (agtake_res rfl rfl) rfl ⟨AgOut.nil _ _, (((Fr.refl No w).alloc _).alloc _).drew.trans hf1⟩
set_option maxRecDepth 100000 in
set_option maxHeartbeats 1000000 in
theorem agtake_clock (q : Nat) (u : Value) (bs : List Nat) (a : AgS) (x : Msg) (clock : Int) (w : World) (H : AgAt w q u bs a) (hh : heardB a.me a.other [1, 4] x = true) (hc : isClockB clock = false) :
    Calls Try.prog 9 #[.pointer (some ⟨q, 0, none⟩), x.val, .int .i64 clock] w fun e w' => AgOut w' e [] 31 ∧ Fr No w w' := by
  have HCL := Lib.hid hc
  clear hc
  have HSL := Lib.hid (Sl.of_new (w.alloc (Obj.cells x.vals.toArray 26)) 3 1 2 #[.int .i64 1, .int .i64 4] [.int .i64 1, .int .i64 4] rfl rfl).drew
  have HH1 := Lib.hid (H.fr0 ((Fr.refl No w).alloc (Obj.cells x.vals.toArray 26)))
  have HX := Lib.hid (Blk.new w 26 x.vals)
  have HHD := Lib.hid hh
  have d0 := H.blk.cell 0
  have d1 := H.blk.cell 1
  have dl := H.blk.lt
  simp only [List.getElem?_cons_zero, List.getElem?_cons_succ] at d0 d1
  have HH := Lib.hid H
  clear hh H
  go_enter Try.func9, Try.ntmps9
  go_wp2
  refine wp_region_o [(0, 0), (1, 0), (2, 0), (3, 1), (4, 1), (5, 2), (6, 2), (7, 0), (8, 0)] (by kernel_rfl) (by kernel_rfl) ?_
  repeat (first
    | (apply wpO_pure rfl rfl; (focus (intro w'; go_simp; (try rfl); done)); try simp only [Act.put, List.setIfInBounds_toArray, List.set_cons_zero, List.set_cons_succ])
    | (apply wpO_read rfl rfl; (focus (intro w' hf' hs'; (try simp only [World.size_drew, World.cell?_drew, World.size_alloc, World.size_setCell] at hs'); go_simp; (try rfl); done)); try simp only [Act.put, List.setIfInBounds_toArray, List.set_cons_zero, List.set_cons_succ])
    | (apply wpO_skip (by decide) rfl rfl; try simp only [Act.put, List.setIfInBounds_toArray, List.set_cons_zero, List.set_cons_succ]))
  refine wpO_loudE rfl fun K hK => ?_
  go_simp
  refine hK _ _ ⟨by (repeat (first | exact Fr.refl _ _ | assumption | refine Fr.drew ?_ | refine Fr.drewL ?_ | refine Fr.alloc ?_ _)), ?_⟩
  clear hK K
  repeat (first
    | (apply wpO_pure rfl rfl; (focus (intro w'; go_simp; (try rfl); done)); try simp only [Act.put, List.setIfInBounds_toArray, List.set_cons_zero, List.set_cons_succ])
    | (apply wpO_read rfl rfl; (focus (intro w' hf' hs'; (try simp only [World.size_drew, World.cell?_drew, World.size_alloc, World.size_setCell] at hs'); go_simp; (try rfl); done)); try simp only [Act.put, List.setIfInBounds_toArray, List.set_cons_zero, List.set_cons_succ])
    | (apply wpO_skip (by decide) rfl rfl; try simp only [Act.put, List.setIfInBounds_toArray, List.set_cons_zero, List.set_cons_succ]))
  refine wpO_loudE rfl fun K hK => ?_
  go_simp
  refine (heard_14 a.me a.other x (some ⟨w.heap.size + 1, 0, none⟩) _ (by have := HSL.out; rw [World.size_alloc] at this; exact this)).mono ?_
  rintro e w1 ⟨he, hf1⟩
  rw [HHD.out] at he
  obtain rfl := he
  refine hK _ _ ⟨hf1, ?_⟩
  clear hK K
  repeat (first
    | (apply wpO_pure rfl rfl; (focus (intro w'; go_simp; (try rfl); done)); try simp only [Act.put, List.setIfInBounds_toArray, List.set_cons_zero, List.set_cons_succ])
    | (apply wpO_read rfl rfl; (focus (intro w' hf' hs'; (try simp only [World.size_drew, World.cell?_drew, World.size_alloc, World.size_setCell] at hs'); go_simp; (try rfl); done)); try simp only [Act.put, List.setIfInBounds_toArray, List.set_cons_zero, List.set_cons_succ])
    | (apply wpO_skip (by decide) rfl rfl; try simp only [Act.put, List.setIfInBounds_toArray, List.set_cons_zero, List.set_cons_succ]))
  refine wpO_nil ?_
  go_wp2_with (go_at_call 23; refine (isClock_any _ _).mono ?_; rintro e w2 ⟨he, hw1⟩; rw [HCL.out] at he; obtain rfl := he; subst w2)
  exact bodyPost_ret (agtake_res rfl rfl) rfl ⟨AgOut.nil _ _, (((Fr.refl No w).alloc _).alloc _).drew.trans hf1⟩
set_option maxRecDepth 100000 in
set_option maxHeartbeats 1000000 in
theorem agtake_start (q : Nat) (u : Value) (bs : List Nat) (a : AgS) (x : Msg) (clock : Int) (w : World) (H : AgAt w q u bs a) (hs : SortedA a.l) (hl : a.l.length ≤ 1000000) (hbg : a.begun ≤ 1000000) (hh : heardB a.me a.other [1, 4] x = true) (hc : isClockB clock = true) (hk : x.kind = 1) :
    Calls Try.prog 9 #[.pointer (some ⟨q, 0, none⟩), x.val, .int .i64 clock] w fun e w' => StOut w w' q u bs e (a.start x clock) := by
  have HCL := Lib.hid hc
  have HK := Lib.hid hk
  have HS := Lib.hid hs
  have HL := Lib.hid hl
  have HBG := Lib.hid hbg
  clear hc hk hs hl hbg
  have HSL := Lib.hid (Sl.of_new (w.alloc (Obj.cells x.vals.toArray 26)) 3 1 2 #[.int .i64 1, .int .i64 4] [.int .i64 1, .int .i64 4] rfl rfl).drew
  have HH1 := Lib.hid (H.fr0 ((Fr.refl No w).alloc (Obj.cells x.vals.toArray 26)))
  have HX := Lib.hid (Blk.new w 26 x.vals)
  have HHD := Lib.hid hh
  have d0 := H.blk.cell 0
  have d1 := H.blk.cell 1
  have dl := H.blk.lt
  simp only [List.getElem?_cons_zero, List.getElem?_cons_succ] at d0 d1
  have HH := Lib.hid H
  clear hh H
  go_enter Try.func9, Try.ntmps9
  go_wp2
  refine wp_region_o [(0, 0), (1, 0), (2, 0), (3, 1), (4, 1), (5, 2), (6, 2), (7, 0), (8, 0)] (by kernel_rfl) (by kernel_rfl) ?_
  repeat (first
    | (apply wpO_pure rfl rfl; (focus (intro w'; go_simp; (try rfl); done)); try simp only [Act.put, List.setIfInBounds_toArray, List.set_cons_zero, List.set_cons_succ])
    | (apply wpO_read rfl rfl; (focus (intro w' hf' hs'; (try simp only [World.size_drew, World.cell?_drew, World.size_alloc, World.size_setCell] at hs'); go_simp; (try rfl); done)); try simp only [Act.put, List.setIfInBounds_toArray, List.set_cons_zero, List.set_cons_succ])
    | (apply wpO_skip (by decide) rfl rfl; try simp only [Act.put, List.setIfInBounds_toArray, List.set_cons_zero, List.set_cons_succ]))
  refine wpO_loudE rfl fun K hK => ?_
  go_simp
  refine hK _ _ ⟨by (repeat (first | exact Fr.refl _ _ | assumption | refine Fr.drew ?_ | refine Fr.drewL ?_ | refine Fr.alloc ?_ _)), ?_⟩
  clear hK K
  repeat (first
    | (apply wpO_pure rfl rfl; (focus (intro w'; go_simp; (try rfl); done)); try simp only [Act.put, List.setIfInBounds_toArray, List.set_cons_zero, List.set_cons_succ])
    | (apply wpO_read rfl rfl; (focus (intro w' hf' hs'; (try simp only [World.size_drew, World.cell?_drew, World.size_alloc, World.size_setCell] at hs'); go_simp; (try rfl); done)); try simp only [Act.put, List.setIfInBounds_toArray, List.set_cons_zero, List.set_cons_succ])
    | (apply wpO_skip (by decide) rfl rfl; try simp only [Act.put, List.setIfInBounds_toArray, List.set_cons_zero, List.set_cons_succ]))
  refine wpO_loudE rfl fun K hK => ?_
  go_simp
  refine (heard_14 a.me a.other x (some ⟨w.heap.size + 1, 0, none⟩) _ (by have := HSL.out; rw [World.size_alloc] at this; exact this)).mono ?_
  rintro e w1 ⟨he, hf1⟩
  rw [HHD.out] at he
  obtain rfl := he
  refine hK _ _ ⟨hf1, ?_⟩
  clear hK K
  have HF1 : Hid (Fr No w w1) := Lib.hid ((((Fr.refl No w).alloc (Obj.cells x.vals.toArray 26)).alloc _).drew.trans hf1)
  have HH2 := Lib.hid (HH.out.fr0 HF1.out)
  have HX2 := Lib.hid (((HX.out.alloc _).drew).fr hf1 (fun h => h))
  obtain ⟨q0, q1, q2, q3, q4, q5, q6, q7⟩ := HX2.out.cells8
  have q8 := HX2.out.lt
  have q9 := HX2.out.frozens
  rw [HK.out] at q2
  have HX1 := Lib.hid (show (⟨x.frm, x.to_, 1, x.n, x.low, x.mins, x.code, x.text⟩ : Msg) = x by rw [← HK.out])
  clear hf1 d0 d1 dl
  repeat (first
    | (apply wpO_pure rfl rfl; (focus (intro w'; go_simp; (try rfl); done)); try simp only [Act.put, List.setIfInBounds_toArray, List.set_cons_zero, List.set_cons_succ])
    | (apply wpO_read rfl rfl; (focus (intro w' hf' hs'; (try simp only [World.size_drew, World.cell?_drew, World.size_alloc, World.size_setCell] at hs'); go_simp; (try rfl); done)); try simp only [Act.put, List.setIfInBounds_toArray, List.set_cons_zero, List.set_cons_succ])
    | (apply wpO_skip (by decide) rfl rfl; try simp only [Act.put, List.setIfInBounds_toArray, List.set_cons_zero, List.set_cons_succ]))
  refine wpO_nil ?_
  have HM0 := Lib.hid (heard_mins HHD.out)
  go_wp2_with (first
    | (go_at_call 23; refine (isClock_any _ _).mono ?_; rintro e w2 ⟨he, hw1⟩; rw [HCL.out] at he; obtain rfl := he; subst w2)
    | (go_at_call 28
       refine (agstart_any q u bs a ⟨x.frm, x.to_, 1, x.n, x.low, x.mins, x.code, x.text⟩ clock _ (HH2.out.fr0 (by (repeat (first | exact Fr.refl _ _ | assumption | refine Fr.drew ?_ | refine Fr.drewL ?_ | refine Fr.alloc ?_ _)))) HS.out HL.out HBG.out HCL.out HM0.out).mono ?_
       rintro e w5 ⟨u5, bs5, ⟨A5, c5, rfl, hS5⟩, hA5, hF5, hN5⟩))
  exact bodyPost_ret (agtake_res rfl rfl) rfl (by
    rw [← HX1.out]
    refine ⟨u5, bs5, ⟨A5, c5, rfl, hS5⟩, hA5, ?_, ?_⟩
    · have hF : Fr No w w1.drew := HF1.out.drew
      first
        | exact Fr.trans (HF1.out.any _) hF5
        | exact Fr.trans (hF.any _) hF5
    · intro k hk
      rcases hN5 k hk with h | h
      · exact .inl h
      · have := HF1.out.size
        have h : w1.heap.size ≤ k := h
        exact .inr (by omega))
/-! ### Noted -/
set_option maxRecDepth 100000 in
set_option maxHeartbeats 1000000 in
theorem agtake_noted (q : Nat) (u : Value) (bs : List Nat) (a : AgS) (x : Msg) (clock : Int) (w : World) (H : AgAt w q u bs a) (hs : SortedA a.l) (hh : heardB a.me a.other [1, 4] x = true) (hc : isClockB clock = true) (hk : x.kind = 4) (hn : atA x.n a.l = none) :
    Calls Try.prog 9 #[.pointer (some ⟨q, 0, none⟩), x.val, .int .i64 clock] w fun e w' => AgOut w' e [] 0 ∧ Fr No w w' := by
  have HCL := Lib.hid hc
  have HK := Lib.hid hk
  have HS := Lib.hid hs
  have HAT := Lib.hid hn
  clear hc hk hs hn
  have HSL := Lib.hid (Sl.of_new (w.alloc (Obj.cells x.vals.toArray 26)) 3 1 2 #[.int .i64 1, .int .i64 4] [.int .i64 1, .int .i64 4] rfl rfl).drew
  have HH1 := Lib.hid (H.fr0 ((Fr.refl No w).alloc (Obj.cells x.vals.toArray 26)))
  have HX := Lib.hid (Blk.new w 26 x.vals)
  have HHD := Lib.hid hh
  have d0 := H.blk.cell 0
  have d1 := H.blk.cell 1
  have dl := H.blk.lt
  simp only [List.getElem?_cons_zero, List.getElem?_cons_succ] at d0 d1
  have HH := Lib.hid H
  clear hh H
  go_enter Try.func9, Try.ntmps9
  go_wp2
  refine wp_region_o [(0, 0), (1, 0), (2, 0), (3, 1), (4, 1), (5, 2), (6, 2), (7, 0), (8, 0)] (by kernel_rfl) (by kernel_rfl) ?_
  repeat (first
    | (apply wpO_pure rfl rfl; (focus (intro w'; go_simp; (try rfl); done)); try simp only [Act.put, List.setIfInBounds_toArray, List.set_cons_zero, List.set_cons_succ])
    | (apply wpO_read rfl rfl; (focus (intro w' hf' hs'; (try simp only [World.size_drew, World.cell?_drew, World.size_alloc, World.size_setCell] at hs'); go_simp; (try rfl); done)); try simp only [Act.put, List.setIfInBounds_toArray, List.set_cons_zero, List.set_cons_succ])
    | (apply wpO_skip (by decide) rfl rfl; try simp only [Act.put, List.setIfInBounds_toArray, List.set_cons_zero, List.set_cons_succ]))
  refine wpO_loudE rfl fun K hK => ?_
  go_simp
  refine hK _ _ ⟨by (repeat (first | exact Fr.refl _ _ | assumption | refine Fr.drew ?_ | refine Fr.drewL ?_ | refine Fr.alloc ?_ _)), ?_⟩
  clear hK K
  repeat (first
    | (apply wpO_pure rfl rfl; (focus (intro w'; go_simp; (try rfl); done)); try simp only [Act.put, List.setIfInBounds_toArray, List.set_cons_zero, List.set_cons_succ])
    | (apply wpO_read rfl rfl; (focus (intro w' hf' hs'; (try simp only [World.size_drew, World.cell?_drew, World.size_alloc, World.size_setCell] at hs'); go_simp; (try rfl); done)); try simp only [Act.put, List.setIfInBounds_toArray, List.set_cons_zero, List.set_cons_succ])
    | (apply wpO_skip (by decide) rfl rfl; try simp only [Act.put, List.setIfInBounds_toArray, List.set_cons_zero, List.set_cons_succ]))
  refine wpO_loudE rfl fun K hK => ?_
  go_simp
  refine (heard_14 a.me a.other x (some ⟨w.heap.size + 1, 0, none⟩) _ (by have := HSL.out; rw [World.size_alloc] at this; exact this)).mono ?_
  rintro e w1 ⟨he, hf1⟩
  rw [HHD.out] at he
  obtain rfl := he
  refine hK _ _ ⟨hf1, ?_⟩
  clear hK K
  have HF1 : Hid (Fr No w w1) := Lib.hid ((((Fr.refl No w).alloc (Obj.cells x.vals.toArray 26)).alloc _).drew.trans hf1)
  have HH2 := Lib.hid (HH.out.fr0 HF1.out)
  have HX2 := Lib.hid (((HX.out.alloc _).drew).fr hf1 (fun h => h))
  obtain ⟨q0, q1, q2, q3, q4, q5, q6, q7⟩ := HX2.out.cells8
  have q8 := HX2.out.lt
  have q9 := HX2.out.frozens
  rw [HK.out] at q2
  clear hf1 d0 d1 dl
  repeat (first
    | (apply wpO_pure rfl rfl; (focus (intro w'; go_simp; (try rfl); done)); try simp only [Act.put, List.setIfInBounds_toArray, List.set_cons_zero, List.set_cons_succ])
    | (apply wpO_read rfl rfl; (focus (intro w' hf' hs'; (try simp only [World.size_drew, World.cell?_drew, World.size_alloc, World.size_setCell] at hs'); go_simp; (try rfl); done)); try simp only [Act.put, List.setIfInBounds_toArray, List.set_cons_zero, List.set_cons_succ])
    | (apply wpO_skip (by decide) rfl rfl; try simp only [Act.put, List.setIfInBounds_toArray, List.set_cons_zero, List.set_cons_succ]))
  refine wpO_nil ?_
  go_wp2_with (first
    | (go_at_call 23; refine (isClock_any _ _).mono ?_; rintro e w2 ⟨he, hw1⟩; rw [HCL.out] at he; obtain rfl := he; subst w2)
    | (go_at_call 29
       refine (find_any q u bs a x.n _ (HH2.out.fr0 (by (repeat (first | exact Fr.refl _ _ | assumption | refine Fr.drew ?_ | refine Fr.drewL ?_ | refine Fr.alloc ?_ _)))) HS.out).mono ?_
       rintro e w3 ⟨he, hf3⟩
       rw [HAT.out] at he
       obtain rfl := he))
  exact bodyPost_ret (agtake_res rfl rfl) rfl ⟨AgOut.nil _ _, Fr.trans HF1.out (Fr.trans (by (repeat (first | exact Fr.refl _ _ | assumption | refine Fr.drew ?_ | refine Fr.drewL ?_ | refine Fr.alloc ?_ _))) hf3)⟩
set_option maxRecDepth 100000 in
set_option maxHeartbeats 1000000 in
theorem agtake_known (q : Nat) (u : Value) (bs : List Nat) (a : AgS) (x : Msg) (clock : Int) (w : World) (H : AgAt w q u bs a) (hs : SortedA a.l) (hh : heardB a.me a.other [1, 4] x = true) (hc : isClockB clock = true) (hk : x.kind = 4) {y : WorkS} (hn : atA x.n a.l = some y) :
    Calls Try.prog 9 #[.pointer (some ⟨q, 0, none⟩), x.val, .int .i64 clock] w fun e w' => AgOut w' e [] 0 ∧ AgAt w' q u bs { a with l := a.l.set (posA x.n a.l) { y with known := y.over } } ∧ Fr (AgF q u bs) w w' := by
  have HCL := Lib.hid hc
  have HK := Lib.hid hk
  have HS := Lib.hid hs
  have HAT := Lib.hid hn
  have hy := (atA_some hn).1
  obtain ⟨P, hP⟩ : ∃ P, P = posA x.n a.l := ⟨_, rfl⟩
  rw [← hP] at hy
  have HP := Lib.hid hP
  have hPn : P < a.l.length := (List.getElem?_eq_some_iff.1 hy).1
  have hP0 : (0 : Int) ≤ (P : Int) := by omega
  have hP1 : (P : Int) < (a.l.length : Int) := by omega
  obtain ⟨b0, hb0⟩ : ∃ b0, bs[P]? = some b0 := ⟨_, List.getElem?_eq_getElem (by rw [H.len]; exact hPn)⟩
  have HY := Lib.hid hy
  have HB0 := Lib.hid hb0
  obtain ⟨A, cA, rfl, hcA⟩ := own_shape H.row
  obtain ⟨g0, o0, hA0, hg0, hcell, _⟩ := (Sl.of_own H.row).cells (by omega)
  subst hA0
  clear hc hk hs hn hy hb0 hcell hg0 hP
  have HSL := Lib.hid (Sl.of_new (w.alloc (Obj.cells x.vals.toArray 26)) 3 1 2 #[.int .i64 1, .int .i64 4] [.int .i64 1, .int .i64 4] rfl rfl).drew
  have HH1 := Lib.hid (H.fr0 ((Fr.refl No w).alloc (Obj.cells x.vals.toArray 26)))
  have HX := Lib.hid (Blk.new w 26 x.vals)
  have HHD := Lib.hid hh
  have d0 := H.blk.cell 0
  have d1 := H.blk.cell 1
  have dl := H.blk.lt
  simp only [List.getElem?_cons_zero, List.getElem?_cons_succ] at d0 d1
  have HH := Lib.hid H
  clear hh H
  go_enter Try.func9, Try.ntmps9
  go_wp2
  refine wp_region_o [(0, 0), (1, 0), (2, 0), (3, 1), (4, 1), (5, 2), (6, 2), (7, 0), (8, 0)] (by kernel_rfl) (by kernel_rfl) ?_
  repeat (first
    | (apply wpO_pure rfl rfl; (focus (intro w'; go_simp; (try rfl); done)); try simp only [Act.put, List.setIfInBounds_toArray, List.set_cons_zero, List.set_cons_succ])
    | (apply wpO_read rfl rfl; (focus (intro w' hf' hs'; (try simp only [World.size_drew, World.cell?_drew, World.size_alloc, World.size_setCell] at hs'); go_simp; (try rfl); done)); try simp only [Act.put, List.setIfInBounds_toArray, List.set_cons_zero, List.set_cons_succ])
    | (apply wpO_skip (by decide) rfl rfl; try simp only [Act.put, List.setIfInBounds_toArray, List.set_cons_zero, List.set_cons_succ]))
  refine wpO_loudE rfl fun K hK => ?_
  go_simp
  refine hK _ _ ⟨by (repeat (first | exact Fr.refl _ _ | assumption | refine Fr.drew ?_ | refine Fr.drewL ?_ | refine Fr.alloc ?_ _)), ?_⟩
  clear hK K
  repeat (first
    | (apply wpO_pure rfl rfl; (focus (intro w'; go_simp; (try rfl); done)); try simp only [Act.put, List.setIfInBounds_toArray, List.set_cons_zero, List.set_cons_succ])
    | (apply wpO_read rfl rfl; (focus (intro w' hf' hs'; (try simp only [World.size_drew, World.cell?_drew, World.size_alloc, World.size_setCell] at hs'); go_simp; (try rfl); done)); try simp only [Act.put, List.setIfInBounds_toArray, List.set_cons_zero, List.set_cons_succ])
    | (apply wpO_skip (by decide) rfl rfl; try simp only [Act.put, List.setIfInBounds_toArray, List.set_cons_zero, List.set_cons_succ]))
  refine wpO_loudE rfl fun K hK => ?_
  go_simp
  refine (heard_14 a.me a.other x (some ⟨w.heap.size + 1, 0, none⟩) _ (by have := HSL.out; rw [World.size_alloc] at this; exact this)).mono ?_
  rintro e w1 ⟨he, hf1⟩
  rw [HHD.out] at he
  obtain rfl := he
  refine hK _ _ ⟨hf1, ?_⟩
  clear hK K
  have HF1 : Hid (Fr No w w1) := Lib.hid ((((Fr.refl No w).alloc (Obj.cells x.vals.toArray 26)).alloc _).drew.trans hf1)
  have HH2 := Lib.hid (HH.out.fr0 HF1.out)
  have HX2 := Lib.hid (((HX.out.alloc _).drew).fr hf1 (fun h => h))
  obtain ⟨q0, q1, q2, q3, q4, q5, q6, q7⟩ := HX2.out.cells8
  have q8 := HX2.out.lt
  have q9 := HX2.out.frozens
  rw [HK.out] at q2
  clear hf1 d0 d1 dl
  repeat (first
    | (apply wpO_pure rfl rfl; (focus (intro w'; go_simp; (try rfl); done)); try simp only [Act.put, List.setIfInBounds_toArray, List.set_cons_zero, List.set_cons_succ])
    | (apply wpO_read rfl rfl; (focus (intro w' hf' hs'; (try simp only [World.size_drew, World.cell?_drew, World.size_alloc, World.size_setCell] at hs'); go_simp; (try rfl); done)); try simp only [Act.put, List.setIfInBounds_toArray, List.set_cons_zero, List.set_cons_succ])
    | (apply wpO_skip (by decide) rfl rfl; try simp only [Act.put, List.setIfInBounds_toArray, List.set_cons_zero, List.set_cons_succ]))
  refine wpO_nil ?_
  go_wp2_with (first
    | (go_at_call 23; refine (isClock_any _ _).mono ?_; rintro e w2 ⟨he, hw1⟩; rw [HCL.out] at he; obtain rfl := he; subst w2)
    | (go_at_call 29
       refine (find_any q _ bs a x.n _ (HH2.out.fr0 (by (repeat (first | exact Fr.refl _ _ | assumption | refine Fr.drew ?_ | refine Fr.drewL ?_ | refine Fr.alloc ?_ _)))) HS.out).mono ?_
       rintro e w3 ⟨he, hf3⟩
       rw [HAT.out, ← HP.out] at he
       obtain rfl := he
       have HF3 : Hid (Fr No w w3) := Lib.hid (Fr.trans HF1.out (Fr.trans (by (repeat (first | exact Fr.refl _ _ | assumption | refine Fr.drew ?_ | refine Fr.drewL ?_ | refine Fr.alloc ?_ _))) hf3))
       have HA3 := Lib.hid (HH.out.fr0 HF3.out)
       have hbl := HA3.out.work P b0 y HB0.out HY.out
       have e1 := hbl.cell 1
       have e2 := hbl.cell 2
       have el := hbl.lt
       have ez := hbl.frozens
       have c2 := HA3.out.blk.cell 2
       have cl := HA3.out.blk.lt
       simp only [List.getElem?_cons_zero, List.getElem?_cons_succ] at e1 e2 c2
       obtain ⟨g1, o1, hA1, hg1, hcell, _⟩ := (Sl.of_own HA3.out.row).cells (by omega)
       injection hA1 with hA1
       injection hA1 with hA1 hA2
       subst hA1 hA2
       have k0 := hcell P (.pointer (some ⟨b0, 0, none⟩)) (by simp [HB0.out])
       have HS9 := Lib.hid (HA3.out.setWork (k := 2) (v := .bool y.over) (x' := { y with known := y.over }) HB0.out HY.out rfl)
       clear hbl hcell hf3))
  refine wp_region_o [(0, 0), (1, 0), (2, 0), (4, 0), (7, 0), (8, 0), (9, 0), (11, 0), (3, 1), (5, 0), (6, 1), (10, 1), (12, 0), (13, 1), (14, 0), (15, 0), (16, 0), (17, 1), (18, 0), (19, 0), (20, 0), (21, 3)] (by kernel_rfl) (by kernel_rfl) ?_
  repeat (first
    | (apply wpO_pure rfl rfl; (focus (intro w'; go_simp; (try rfl); done)); try simp only [Act.put, List.setIfInBounds_toArray, List.set_cons_zero, List.set_cons_succ])
    | (apply wpO_read rfl rfl; (focus (intro w' hf' hs'; (try simp only [World.size_drew, World.cell?_drew, World.size_alloc, World.size_setCell] at hs'); go_simp; (try rfl); done)); try simp only [Act.put, List.setIfInBounds_toArray, List.set_cons_zero, List.set_cons_succ])
    | (apply wpO_skip (by decide) rfl rfl; try simp only [Act.put, List.setIfInBounds_toArray, List.set_cons_zero, List.set_cons_succ]))
  refine wpO_loud rfl fun K hK => ?_
  go_simp
  refine hK _ _ ?_
  clear hK K
  repeat (first
    | (apply wpO_pure rfl rfl; (focus (intro w'; go_simp; (try rfl); done)); try simp only [Act.put, List.setIfInBounds_toArray, List.set_cons_zero, List.set_cons_succ])
    | (apply wpO_read rfl rfl; (focus (intro w' hf' hs'; (try simp only [World.size_drew, World.cell?_drew, World.size_alloc, World.size_setCell] at hs'); go_simp; (try rfl); done)); try simp only [Act.put, List.setIfInBounds_toArray, List.set_cons_zero, List.set_cons_succ])
    | (apply wpO_skip (by decide) rfl rfl; try simp only [Act.put, List.setIfInBounds_toArray, List.set_cons_zero, List.set_cons_succ]))
  refine wpO_nil ?_
  go_wp2
  exact bodyPost_ret (agtake_res rfl rfl) rfl ⟨AgOut.nil _ _, by rw [← HP.out]; exact HS9.out.fr0 (by (repeat (first | exact Fr.refl _ _ | assumption | refine Fr.drew ?_ | refine Fr.drewL ?_ | refine Fr.alloc ?_ _))), ((HF3.out.any _).setCell (p := ⟨b0, 2, none⟩) (.inl (.inr (.inl (List.mem_of_getElem? HB0.out)))) _).drew⟩
/-- an agent's Take, whole -/
theorem agtake_any (q : Nat) (u : Value) (bs : List Nat) (a : AgS) (x : Msg) (clock : Int) (w : World) (H : AgAt w q u bs a) (hs : SortedA a.l) (hl : a.l.length ≤ 1000000) (hbg : a.begun ≤ 1000000) :
    Calls Try.prog 9 #[.pointer (some ⟨q, 0, none⟩), x.val, .int .i64 clock] w fun e w' => StOut w w' q u bs e (a.take x clock) := by
  cases hh : heardB a.me a.other [1, 4] x with
  | false =>
    have e : a.take x clock = (a, [], 1) := by unfold AgS.take; rw [hh]; rfl
    rw [e]
    exact (agtake_not q u bs a x clock w H hh).mono fun e w' ⟨h1, h2⟩ => StOut.same H h1 h2
  | true =>
    cases hc : isClockB clock with
    | false =>
      have e : a.take x clock = (a, [], 31) := by unfold AgS.take; rw [hh, hc]; rfl
      rw [e]
      exact (agtake_clock q u bs a x clock w H hh hc).mono fun e w' ⟨h1, h2⟩ => StOut.same H h1 h2
    | true =>
      rcases heard_kind4 hh with hk | hk
      · have e : a.take x clock = a.start x clock := by unfold AgS.take; rw [hh, hc]; simp [hk]
        rw [e]
        exact agtake_start q u bs a x clock w H hs hl hbg hh hc hk
      · cases hn : atA x.n a.l with
        | none =>
          have e : a.take x clock = (a, [], 0) := by unfold AgS.take; rw [hh, hc, hn]; simp [hk]
          rw [e]
          exact (agtake_noted q u bs a x clock w H hs hh hc hk hn).mono fun e w' ⟨h1, h2⟩ => StOut.same H h1 h2
        | some y =>
          have e : a.take x clock = ({ a with l := a.l.set (posA x.n a.l) { y with known := y.over } }, [], 0) := by unfold AgS.take; rw [hh, hc, hn]; simp [hk]
          rw [e]
          exact (agtake_known q u bs a x clock w H hs hh hc hk hn).mono fun e w' ⟨h1, h2, h3⟩ => ⟨u, bs, h1, h2, h3, fun _ h => .inl h⟩
end Go.Proofs.Ytohnchkoldbpcaa

/- agent: Tick. -/
namespace Go.Proofs.Ytohnchkoldbpcaa
open Go Go.RowKit Go.Proofs

theorem agtick_nil (n : Int) (w : World) : Calls Try.prog 11 #[.pointer none, .int .i64 n] w fun e w' => e = .returned (.slice none 0 0) ∧ Fr No w w' := by
  go_enter Try.func11, Try.ntmps11
  go_wp2
  go_ret
  exact ⟨rfl, by (repeat (first | exact Fr.refl _ _ | assumption | refine Fr.drew ?_ | refine Fr.drewL ?_ | refine Fr.alloc ?_ _))⟩
theorem begun_nil (w : World) : Calls Try.prog 15 #[.pointer none] w fun e w' => e = .returned (.int .i64 0) ∧ Fr No w w' := by
  go_enter Try.func15, Try.ntmps15
  go_wp2
  go_ret
  exact ⟨rfl, by (repeat (first | exact Fr.refl _ _ | assumption | refine Fr.drew ?_ | refine Fr.drewL ?_ | refine Fr.alloc ?_ _))⟩
/-! ### what a tick does, one after another -/
def atF (clock : Int) (x : WorkS) : WorkS := if tellB clock x then { x with over := true, sent := clock } else x
def atL (l : List WorkS) (clock : Int) (i : Nat) : List WorkS := (l.take i).map (atF clock) ++ l.drop i
def atM (a : AgS) (clock : Int) (i : Nat) : List Msg := ((a.l.take i).filter (tellB clock)).map fun x => sayM a.me a.other 3 x.run x.code
theorem atL_zero (l : List WorkS) (clock : Int) : atL l clock 0 = l := by simp [atL]
theorem atL_all (l : List WorkS) (clock : Int) : atL l clock l.length = l.map (atF clock) := by simp [atL]
theorem atL_at {l : List WorkS} {clock : Int} {i : Nat} {x : WorkS} (hx : l[i]? = some x) : (atL l clock i)[i]? = some x := by
  have hl := (List.getElem?_eq_some_iff.1 hx).1
  unfold atL
  rw [List.getElem?_append_right (by rw [List.length_map, List.length_take]; omega), List.length_map, List.length_take, Nat.min_eq_left (by omega), Nat.sub_self, List.getElem?_drop, Nat.add_zero, hx]
theorem atL_succ {l : List WorkS} {clock : Int} {i : Nat} {x : WorkS} (hx : l[i]? = some x) : atL l clock (i + 1) = (atL l clock i).set i (atF clock x) := by
  have hl := (List.getElem?_eq_some_iff.1 hx).1
  unfold atL
  have h1 : ((l.take i).map (atF clock)).length = i := by rw [List.length_map, List.length_take]; omega
  rw [List.set_append_right _ _ (by omega), h1, Nat.sub_self, List.take_add_one, hx, List.map_append, List.drop_eq_getElem_cons hl]
  rw [(List.getElem?_eq_some_iff.1 hx).2]
  simp
theorem atL_skip {l : List WorkS} {clock : Int} {i : Nat} {x : WorkS} (hx : l[i]? = some x) (ht : tellB clock x = false) : atL l clock (i + 1) = atL l clock i := by
  have hl := (List.getElem?_eq_some_iff.1 hx).1
  have e : atF clock x = x := by unfold atF; rw [ht]; rfl
  unfold atL
  rw [List.take_add_one, hx, List.map_append, List.drop_eq_getElem_cons hl, (List.getElem?_eq_some_iff.1 hx).2]
  simp [e]
theorem atL_len (l : List WorkS) (clock : Int) (i : Nat) : (atL l clock i).length = l.length := by
  unfold atL
  rw [List.length_append, List.length_map, List.length_take, List.length_drop]
  omega
theorem atM_succ {a : AgS} {clock : Int} {i : Nat} {x : WorkS} (hx : a.l[i]? = some x) : atM a clock (i + 1) = atM a clock i ++ (if tellB clock x then [sayM a.me a.other 3 x.run x.code] else []) := by
  unfold atM
  rw [List.take_add_one, hx, List.filter_append, List.map_append]
  congr 1
  simp only [Option.toList, List.filter_cons, List.filter_nil]
  split <;> rfl
theorem atM_len (a : AgS) (clock : Int) (i : Nat) : (atM a clock i).length ≤ a.l.length := by
  unfold atM
  rw [List.length_map]
  refine Nat.le_trans (List.length_filter_le _ _) ?_
  rw [List.length_take]
  omega
theorem agtick_eq {a : AgS} {clock : Int} (hc : isClockB clock = true) : a.tick clock = ({ a with l := atL a.l clock a.l.length }, atM a clock a.l.length) := by
  unfold AgS.tick
  rw [if_pos hc, atL_all]
  unfold atM
  rw [List.take_of_length_le (Nat.le_refl _)]
  rfl
theorem agtick_not (q : Nat) (u : Value) (bs : List Nat) (a : AgS) (w : World) (H : AgAt w q u bs a) (clock : Int) (hc : isClockB clock = false) :
    Calls Try.prog 11 #[.pointer (some ⟨q, 0, none⟩), .int .i64 clock] w fun e w' => e = .returned (.slice none 0 0) ∧ Fr No w w' := by
  have HC := Lib.hid hc
  clear H hc
  go_enter Try.func11, Try.ntmps11
  go_wp2_with (go_at_call 23; refine (isClock_any _ _).mono ?_; rintro e w1 ⟨he, hw1⟩; rw [HC.out] at he; obtain rfl := he; subst w1)
  go_ret
  exact ⟨rfl, by (repeat (first | exact Fr.refl _ _ | assumption | refine Fr.drew ?_ | refine Fr.drewL ?_ | refine Fr.alloc ?_ _))⟩
def AtRel (w : World) (q : Nat) (u : Value) (bs : List Nat) (a : AgS) (clock : Int) (g : Nat) (v5 v22 : Value) (wr : World) : Prop :=
  ∃ (i : Nat) (v : Value), i + g = a.l.length ∧ v22 = .int .i64 i ∧ v5 = v ∧ AgAt wr q u bs { a with l := atL a.l clock i } ∧
    wr.ownsRow w.heap.size 26 8 v (atM a clock i).length ((atM a clock i).flatMap Msg.vals) ∧ Fr (AgF q u bs) w wr
set_option maxRecDepth 100000 in
set_option maxHeartbeats 2000000 in
theorem agtick_ok (q : Nat) (u : Value) (bs : List Nat) (a : AgS) (w : World) (H : AgAt w q u bs a) (clock : Int) (hc : isClockB clock = true) (hsent : ∀ (i : Nat) (x : WorkS), a.l[i]? = some x → 0 ≤ x.sent ∧ x.sent ≤ 5258966399) :
    Calls Try.prog 11 #[.pointer (some ⟨q, 0, none⟩), .int .i64 clock] w fun e w' => ∃ v, e = .returned v ∧ w'.ownsRow w.heap.size 26 8 v (a.tick clock).2.length ((a.tick clock).2.flatMap Msg.vals) ∧ AgAt w' q u bs (a.tick clock).1 ∧ Fr (AgF q u bs) w w' := by
  have HT := Lib.hid (agtick_eq (a := a) hc)
  obtain ⟨j0, hj0, jz0, jz1, jz2⟩ := info_parts msg_info
  have c2 := H.blk.cell 2
  have cl := H.blk.lt
  simp only [List.getElem?_cons_zero, List.getElem?_cons_succ] at c2
  have hl0 : (0 : Int) ≤ (a.l.length : Int) := by omega
  have hl1 : (a.l.length : Int) ≤ 2147483647 := by have := H.most; omega
  obtain ⟨A, c, rfl, hcc⟩ := own_shape H.row
  have HH := Lib.hid H
  have HC := Lib.hid hc
  have HSENT := Lib.hid hsent
  have hclk : 0 ≤ clock ∧ clock ≤ 5258966399 := by unfold isClockB at hc; simpa using hc
  obtain ⟨hclk0, hclk1⟩ := hclk
  have HLT := Lib.hid H.lt
  clear H hcc hc hsent
  go_enter Try.func11, Try.ntmps11
  go_wp2_with (go_at_call 23; refine (isClock_any _ _).mono ?_; rintro e w1 ⟨he, hw1⟩; rw [HC.out] at he; obtain rfl := he; subst w1)
  go_loopg [5, 22] a.l.length (fun g v5 v22 wr => AtRel w q (.slice A a.l.length c) bs a clock g v5 v22 wr)
  case atStart => exact ⟨0, .slice none 0 0, by omega, rfl, rfl, by rw [atL_zero]; exact HH.out.fr0 (by (repeat (first | exact Fr.refl _ _ | assumption | refine Fr.drew ?_ | refine Fr.drewL ?_ | refine Fr.alloc ?_ _))), World.ownsRow_nil _ _ _ _, by (repeat (first | exact Fr.refl _ _ | assumption | refine Fr.drew ?_ | refine Fr.drewL ?_ | refine Fr.alloc ?_ _))⟩
  case round =>
    obtain ⟨i, v, hgi, rfl, rfl, hH, hown, hF⟩ := hrel
    have HH1 := Lib.hid hH
    have HF1 := Lib.hid hF
    have HO := Lib.hid hown
    have hi0 : (0 : Int) ≤ (i : Int) := by omega
    clear hH hF
    by_cases hi : i < a.l.length
    · have hi1 : (i : Int) < (a.l.length : Int) := by omega
      obtain ⟨x, hx⟩ : ∃ x, a.l[i]? = some x := ⟨_, List.getElem?_eq_getElem hi⟩
      have hx0 := atL_at (clock := clock) hx
      obtain ⟨b, hb⟩ : ∃ b, bs[i]? = some b := ⟨_, List.getElem?_eq_getElem (by rw [HH.out.len]; exact hi)⟩
      have hblk := HH1.out.work i b x hb hx0
      have hrow : wr.ownsRow 0 81 1 (.slice A a.l.length c) a.l.length (ptrV bs) := by
        have h1 := HH1.out.row
        simp only [atL_len] at h1
        exact h1
      obtain ⟨g1, o1, hA1, hg1, hcell, _⟩ := (Sl.of_own hrow).cells (by omega)
      subst hA1
      have k1 := hcell i (.pointer (some ⟨b, 0, none⟩)) (by simp [hb])
      have r1 := hblk.cell 1
      have r2 := hblk.cell 2
      have r3 := hblk.cell 3
      have r5 := hblk.cell 5
      have rl := hblk.lt
      simp only [List.getElem?_cons_zero, List.getElem?_cons_succ] at r1 r2 r3 r5
      have HXX := Lib.hid hx
      have HX0 := Lib.hid hx0
      have HB0 := Lib.hid hb
      obtain ⟨hs0, hs1⟩ := HSENT.out _ _ hx
      obtain ⟨d, hd'⟩ : ∃ d, d = clock - x.sent := ⟨_, rfl⟩
      have hdw : IntKind.i64.wrap (clock - x.sent) = d := by rw [IntWalk.i64_in _ (by omega)]; exact hd'.symm
      have HD := Lib.hid hd'
      have hd0 : -5258966399 ≤ d := by omega
      have hd1 : d ≤ 5258966399 := by omega
      have HMS := Lib.hid (atM_succ (clock := clock) hx)
      have hnb : b < w.heap.size := HLT.out b (.inr (.inl (List.mem_of_getElem? hb)))
      clear hblk hrow hx hb hx0 hd' hown hcell
      by_cases hov : x.over = true
      · rw [hov] at r1
        by_cases hkn : x.known = true
        · have HAG := Lib.hid (show tellB clock x = false by unfold tellB; rw [hov, hkn]; simp)
          rw [hkn] at r2
          clear hov hkn
          go_wp2
          go_roundg (a.l.length - (i + 1))
          case measure => omega
          case rel => exact ⟨i + 1, _, by omega, by go_num, rfl, by rw [atL_skip HXX.out HAG.out]; exact HH1.out, by rw [HMS.out, HAG.out, if_neg (by simp), List.append_nil]; exact HO.out, HF1.out⟩
        · have hkn : x.known = false := by simpa using hkn
          rw [hkn] at r2
          by_cases h5 : 5 ≤ d
          · have HAG := Lib.hid (show tellB clock x = true by unfold tellB; rw [hov, hkn, ← HD.out]; simpa using h5)
            clear hov hkn
            obtain ⟨A5, c5, rfl, _⟩ := own_shape HO.out
            have HML := Lib.hid (show (atM a clock i).length ≤ a.l.length from atM_len a clock i)
            go_wp2_with (first
              | (go_at_call 30
                 refine (tell_any q _ bs _ _ HH1.out HB0.out HX0.out clock).mono ?_
                 rintro e w3 ⟨rfl, hA3, hf3⟩
                 have HO3 := Lib.hid (own_fr0 (own_fr HO.out hf3 fun k hk e => by have h1 := (own_size HO.out k hk).1; have e : k = b := e; omega) ((Fr.refl No w3).alloc (Obj.cells (sayM a.me a.other 3 x.run x.code).vals.toArray 26)))
                 have HN3 : Hid (Sl (w3.alloc (Obj.cells (sayM a.me a.other 3 x.run x.code).vals.toArray 26)) 26 8 (some ⟨w3.heap.size, 0, none⟩) 1 (sayM a.me a.other 3 x.run x.code).vals) := Lib.hid (Sl.of_new w3 26 8 1 _ _ rfl rfl)
                 have HS3 := Lib.hid (hA3.fr0 ((Fr.refl No w3).alloc (Obj.cells (sayM a.me a.other 3 x.run x.code).vals.toArray 26)))
                 have HF3 : Hid (Fr (AgF q (.slice (some ⟨g1, o1, none⟩) a.l.length c) bs) w (w3.alloc (Obj.cells (sayM a.me a.other 3 x.run x.code).vals.toArray 26))) := Lib.hid ((HF1.out.step hf3 fun k hk => .inl (.inr (.inl (by have hk : k = b := hk; rw [hk]; exact List.mem_of_getElem? HB0.out)))).alloc _)
                 clear hf3 hA3)
              | (at_builtin; go_loud (refine wpList_append_owned' (by rfl) (.tmp 67) (.tmp 72) 30 (by rfl) w.heap.size 26 j0 _ 8 72 Try.underlying30 hj0 jz0 jz1 jz2 rfl (by omega) (.slice A5 (atM a clock i).length c5) (atM a clock i).length ((atM a clock i).flatMap Msg.vals) (by rfl) HO3.out (some ⟨w3.heap.size, 0, none⟩) 1 1 26 (sayM a.me a.other 3 x.run x.code).vals (by rfl) HN3.out (List.all_eq_true.1 (by rfl)) (by have := HML.out; simp only [maxLen]; omega) (by have := HML.out; omega) (by have := HF3.out.size; simp only [World.size_alloc] at this ⊢; omega) ?_); intro v4 w4 ho hg hat))
            have HEX := Lib.hid (show ∀ k, AgF q (.slice (some ⟨g1, o1, none⟩) a.l.length c) bs k → ¬ (some k = (Value.slice A5 (atM a clock i).length c5).ownBlock) from fun k hk e => by have h1 := (own_size HO3.out k e.symm).1; have h2 := HLT.out k hk; omega)
            have HAF := Lib.hid (show atL a.l clock (i + 1) = (atL a.l clock i).set i { x with over := true, sent := clock } by rw [atL_succ HXX.out]; unfold atF; rw [HAG.out]; rfl)
            go_roundg (a.l.length - (i + 1))
            case measure => omega
            case rel => exact ⟨i + 1, _, by omega, by go_num, rfl, by rw [HAF.out]; exact HS3.out.fr (Fr.of_grown hg) HEX.out, by rw [HMS.out, HAG.out, if_pos rfl, List.flatMap_append, List.length_append]; simpa using ho, HF3.out.step (Fr.of_grown hg) fun k hk => .inr (own_size HO3.out k hk.symm).1⟩
          · have HAG := Lib.hid (show tellB clock x = false by unfold tellB; rw [hov, hkn, ← HD.out]; simpa using h5)
            have h6 : decide (5 ≤ d) = false := by simpa using h5
            clear hov hkn h5
            go_wp2
            go_roundg (a.l.length - (i + 1))
            case measure => omega
            case rel => exact ⟨i + 1, _, by omega, by go_num, rfl, by rw [atL_skip HXX.out HAG.out]; exact HH1.out, by rw [HMS.out, HAG.out, if_neg (by simp), List.append_nil]; exact HO.out, HF1.out⟩
      · have hov : x.over = false := by simpa using hov
        rw [hov] at r1
        by_cases h5 : x.fin ≤ clock
        · have HAG := Lib.hid (show tellB clock x = true by unfold tellB; rw [hov]; simpa using h5)
          have h6 : decide (x.fin ≤ clock) = true := by simpa using h5
          clear hov h5
          obtain ⟨A5, c5, rfl, _⟩ := own_shape HO.out
          have HML := Lib.hid (show (atM a clock i).length ≤ a.l.length from atM_len a clock i)
          go_wp2_with (first
            | (go_at_call 30
               refine (tell_any q _ bs _ _ HH1.out HB0.out HX0.out clock).mono ?_
               rintro e w3 ⟨rfl, hA3, hf3⟩
               have HO3 := Lib.hid (own_fr0 (own_fr HO.out hf3 fun k hk e => by have h1 := (own_size HO.out k hk).1; have e : k = b := e; omega) ((Fr.refl No w3).alloc (Obj.cells (sayM a.me a.other 3 x.run x.code).vals.toArray 26)))
               have HN3 : Hid (Sl (w3.alloc (Obj.cells (sayM a.me a.other 3 x.run x.code).vals.toArray 26)) 26 8 (some ⟨w3.heap.size, 0, none⟩) 1 (sayM a.me a.other 3 x.run x.code).vals) := Lib.hid (Sl.of_new w3 26 8 1 _ _ rfl rfl)
               have HS3 := Lib.hid (hA3.fr0 ((Fr.refl No w3).alloc (Obj.cells (sayM a.me a.other 3 x.run x.code).vals.toArray 26)))
               have HF3 : Hid (Fr (AgF q (.slice (some ⟨g1, o1, none⟩) a.l.length c) bs) w (w3.alloc (Obj.cells (sayM a.me a.other 3 x.run x.code).vals.toArray 26))) := Lib.hid ((HF1.out.step hf3 fun k hk => .inl (.inr (.inl (by have hk : k = b := hk; rw [hk]; exact List.mem_of_getElem? HB0.out)))).alloc _)
               clear hf3 hA3)
            | (at_builtin; go_loud (refine wpList_append_owned' (by rfl) (.tmp 67) (.tmp 72) 30 (by rfl) w.heap.size 26 j0 _ 8 72 Try.underlying30 hj0 jz0 jz1 jz2 rfl (by omega) (.slice A5 (atM a clock i).length c5) (atM a clock i).length ((atM a clock i).flatMap Msg.vals) (by rfl) HO3.out (some ⟨w3.heap.size, 0, none⟩) 1 1 26 (sayM a.me a.other 3 x.run x.code).vals (by rfl) HN3.out (List.all_eq_true.1 (by rfl)) (by have := HML.out; simp only [maxLen]; omega) (by have := HML.out; omega) (by have := HF3.out.size; simp only [World.size_alloc] at this ⊢; omega) ?_); intro v4 w4 ho hg hat))
          have HEX := Lib.hid (show ∀ k, AgF q (.slice (some ⟨g1, o1, none⟩) a.l.length c) bs k → ¬ (some k = (Value.slice A5 (atM a clock i).length c5).ownBlock) from fun k hk e => by have h1 := (own_size HO3.out k e.symm).1; have h2 := HLT.out k hk; omega)
          have HAF := Lib.hid (show atL a.l clock (i + 1) = (atL a.l clock i).set i { x with over := true, sent := clock } by rw [atL_succ HXX.out]; unfold atF; rw [HAG.out]; rfl)
          go_roundg (a.l.length - (i + 1))
          case measure => omega
          case rel => exact ⟨i + 1, _, by omega, by go_num, rfl, by rw [HAF.out]; exact HS3.out.fr (Fr.of_grown hg) HEX.out, by rw [HMS.out, HAG.out, if_pos rfl, List.flatMap_append, List.length_append]; simpa using ho, HF3.out.step (Fr.of_grown hg) fun k hk => .inr (own_size HO3.out k hk.symm).1⟩
        · have HAG := Lib.hid (show tellB clock x = false by unfold tellB; rw [hov]; simpa using h5)
          have h6 : decide (x.fin ≤ clock) = false := by simpa using h5
          clear hov h5
          go_wp2
          go_roundg (a.l.length - (i + 1))
          case measure => omega
          case rel => exact ⟨i + 1, _, by omega, by go_num, rfl, by rw [atL_skip HXX.out HAG.out]; exact HH1.out, by rw [HMS.out, HAG.out, if_neg (by simp), List.append_nil]; exact HO.out, HF1.out⟩
    · obtain rfl : i = a.l.length := by omega
      obtain ⟨B2, cB, rfl, _⟩ := own_shape hown
      clear hown
      go_wp2
      go_ret
      refine ⟨_, rfl, ?_⟩
      rw [HT.out]
      exact ⟨HO.out, HH1.out, HF1.out⟩
end Go.Proofs.Ytohnchkoldbpcaa

/- agent, the plain law: each step keeps what holds. -/
namespace Go.Proofs.Ytohnchkoldbpcaa
open Go Go.RowKit

theorem countI_range (n : Int) (k : Int) (hk : 0 < k) : 0 ≤ countI n k ∧ countI n k < k := by
  unfold countI
  rw [if_neg (by omega)]
  exact ⟨Int.emod_nonneg n (by omega), Int.emod_lt_of_pos n hk⟩
theorem tmod3 (n : Int) (h : 0 ≤ n) : n.tmod 3 = n % 3 := Int.tmod_eq_emod_of_nonneg h
theorem findR_pos {p : PlayS} (h : InvH p) {k : Nat} {r : Req} (hr : p.h.l[k]? = some r) : findR ((k : Int) + 1) p.h.l = some r := by
  unfold findR
  rw [List.find?_eq_some_iff_append]
  have hk := (List.getElem?_eq_some_iff.1 hr).1
  refine ⟨by have := (h.req k r hr).1; simpa using this, p.h.l.take k, p.h.l.drop (k + 1), ?_, fun y hy => ?_⟩
  · have e := (List.getElem?_eq_some_iff.1 hr).2
    rw [← e, ← List.drop_eq_getElem_cons hk, List.take_append_drop]
  · obtain ⟨j, hj⟩ := List.getElem?_of_mem hy
    rw [List.getElem?_take] at hj
    split at hj
    · have := (h.req j y hj).1
      simp only [Bool.not_eq_true', beq_eq_false_iff_ne]
      omega
    · cases hj
theorem findR_none {p : PlayS} (h : InvH p) {n : Int} (hn : n < 1 ∨ (p.h.l.length : Int) < n) : findR n p.h.l = none := by
  unfold findR
  rw [List.find?_eq_none]
  intro r hr
  obtain ⟨j, hj⟩ := List.getElem?_of_mem hr
  have h1 := (h.req j r hj).1
  have h2 := (List.getElem?_eq_some_iff.1 hj).1
  simp only [beq_iff_eq]
  omega
theorem setR_length (n st : Int) (l : List Req) : (setR n st l).length = l.length := by simp [setR]
theorem setR_get {n st : Int} {l : List Req} {i : Nat} {r : Req} (h : (setR n st l)[i]? = some r) : ∃ r0, l[i]? = some r0 ∧ r = if r0.run = n then { r0 with state := st } else r0 := by
  unfold setR at h
  rw [List.getElem?_map] at h
  cases h0 : l[i]? with
  | none => rw [h0] at h; cases h
  | some r0 =>
    rw [h0] at h
    injection h with h
    exact ⟨r0, rfl, h.symm⟩
theorem advR_ge (l : List Req) (k : Nat) : k ≤ advR l k := Nat.le_add_right _ _
theorem advR_le (l : List Req) (k : Nat) (h : k ≤ l.length) : advR l k ≤ l.length := by
  unfold advR
  have := (List.takeWhile_sublist (l := l.drop k) fun r => r.state == 2).length_le
  rw [List.length_drop] at this
  omega
/-- what of the agent's part depends on the hub -/
theorem InvA.hub {p p' : PlayS} (h : InvA p) (ha : p'.a = p.a) (he : p'.ends = p.ends) (hc : p.clock ≤ p'.clock) (hl : p.h.l.length ≤ p'.h.l.length) (hf : p.h.frm ≤ p'.h.frm) : InvA p' := by
  obtain ⟨h1, h2, h3, h4, h5, h6⟩ := h
  refine ⟨by rw [ha]; exact h1, by rw [ha]; exact h2, fun x hx => ?_, by rw [ha]; omega, fun i e hi h0 => ?_, by rw [ha, he]; exact h6⟩
  · rw [ha] at hx ⊢
    rw [he]
    obtain ⟨a, b, c, d, e, f, g, k⟩ := h3 x hx
    exact ⟨a, b, c, by omega, e, f, g, fun ho => by have := k ho; omega⟩
  · rw [ha]
    rw [he] at hi
    exact h5 i e hi h0
theorem inv_net {p : PlayS} (h : Inv p) {n : List Msg} (hn : ∀ m ∈ n, MsgOk p m) : Inv { p with n := n } := ⟨⟨h.h.me, h.h.run, h.h.ends, h.h.seenL, h.h.req, h.h.frm, h.h.win, h.h.seen⟩, ⟨h.a.me, h.a.sorted, h.a.work, h.a.low, h.a.begun, h.a.cnt⟩, hn, h.ok, h.clock⟩
theorem eraseIdx_mem {α : Type} {l : List α} {i : Nat} {x : α} (h : x ∈ l.eraseIdx i) : x ∈ l := (List.eraseIdx_sublist l i).subset h
theorem inv_ask {p : PlayS} (h : Inv p) {mins : Int} (hm : 0 ≤ mins ∧ mins ≤ 11) : Inv (askS p mins) := by
  unfold askS
  split
  case isFalse => exact h
  case isTrue he =>
    have hroom : p.h.l.length - p.h.frm < 64 := by
      unfold HubS.askE at he
      split at he
      · split at he
        · split at he
          · split at he
            · assumption
            · cases he
          · cases he
        · cases he
      · cases he
    have hrun := h.h.run
    have hends := h.h.ends
    have hfrm := h.h.frm
    have hH : InvH { p with h := p.h.add (newR p mins), run := p.run + 1, ends := p.ends ++ [-1], seen := p.seen ++ [0], n := sendsL [startM (p.h.add (newR p mins)) (newR p mins)] p.n } := by
      refine ⟨h.h.me, ?_, ?_, ?_, fun i r hr => ?_, ?_, ?_, fun i r hr => ?_⟩
      · simp only [HubS.add, List.length_append, List.length_singleton]; omega
      · simp only [HubS.add, List.length_append, List.length_singleton]; omega
      · simp only [HubS.add, List.length_append, List.length_singleton]; have := h.h.seenL; omega
      · simp only [HubS.add] at hr
        rw [List.getElem?_append] at hr
        split at hr
        · exact h.h.req i r hr
        · rename_i hi
          have hlt := (List.getElem?_eq_some_iff.1 hr).1
          simp only [List.length_singleton] at hlt
          have e : i = p.h.l.length := by omega
          subst e
          simp only [Nat.sub_self, List.getElem?_cons_zero, Option.some.injEq] at hr
          subst hr
          unfold newR
          simp only
          refine ⟨by omega, ?_, hm.1, hm.2⟩
          rw [tmod3 _ (by omega), hrun]
      · simp only [HubS.add, List.length_append, List.length_singleton]; omega
      · simp only [HubS.add, List.length_append, List.length_singleton]; omega
      · simp only [HubS.add] at hr
        have hs := h.h.seenL
        rw [List.getElem?_append] at hr
        split at hr
        · rename_i hi
          simp only
          rw [List.getElem?_append_left (by omega)]
          exact h.h.seen i r hr
        · have hlt := (List.getElem?_eq_some_iff.1 hr).1
          simp only [List.length_singleton] at hlt
          have e : i = p.h.l.length := by omega
          subst e
          simp only [Nat.sub_self, List.getElem?_cons_zero, Option.some.injEq] at hr
          subst hr
          simp only
          rw [List.getElem?_append_right (by omega), hs]
          simp [newR]
    have happ : ∀ (i : Nat) (e : Int), p.ends[i]? = some e → (p.ends ++ [-1])[i]? = some e := fun i e hi => by
      rw [List.getElem?_append_left (List.getElem?_eq_some_iff.1 hi).1]; exact hi
    refine ⟨hH, ⟨h.a.me, h.a.sorted, fun x hx => ?_, ?_, fun i e hi h0 => ?_, ?_⟩, fun m hmn => ?_, h.ok, h.clock⟩
    · obtain ⟨a, b, c, d, e, f, g, k⟩ := h.a.work x hx
      refine ⟨a, b, c, ?_, e, happ _ _ f, g, k⟩
      simp only [HubS.add, List.length_append, List.length_singleton]; omega
    · have := h.a.low
      exact this
    · simp only at hi
      rw [List.getElem?_append] at hi
      split at hi
      · exact h.a.begun i e hi h0
      · rename_i hlt
        have h1 := (List.getElem?_eq_some_iff.1 hi).1
        simp only [List.length_singleton] at h1
        have e1 : i - p.ends.length = 0 := by omega
        rw [e1] at hi
        simp only [List.getElem?_cons_zero, Option.some.injEq] at hi
        omega
    · simp only [List.filter_append]
      rw [h.a.cnt]
      simp
    · rcases sendsL_mem hmn with hm1 | hm1
      · simp only [List.mem_singleton] at hm1
        subst hm1
        have hlow := low_eq hH
        simp only at hlow
        refine ⟨?_, ?_, .inl ⟨rfl, ?_, hm.1, hm.2, ?_, ?_, ?_⟩⟩ <;> simp only [startM, newR, HubS.add, List.length_append, List.length_singleton] at *
        · omega
        · omega
        · rw [tmod3 _ (by omega)]
        · omega
        · omega
        · omega
      · exact (h.msg m hm1).mono (by simp [HubS.add]) (Nat.le_refl _) (fun i e hi _ => happ i e hi) (Int.le_refl _)

theorem heard_mem {me other : Int} {ks : List Int} {m : Msg} (h : heardB me other ks m = true) : m.kind ∈ ks := by
  unfold heardB at h
  simp only [Bool.and_eq_true] at h
  simpa using h.2
theorem getD_of' {l : List Int} {i : Nat} {x : Int} (h : l[i]? = some x) : l.getD i 0 = x := by rw [List.getD_eq_getElem?_getD, h]; rfl
theorem hst' {s : Int} (h : ¬ s = 2) : (some (if s = 2 then 1 else 0) : Option Int) = some 0 := by rw [if_neg h]
theorem inv_comeH {p : PlayS} (h : Inv p) {m : Msg} {n : List Msg} (hm : MsgOk p m) (hn : ∀ x ∈ n, MsgOk p x) : Inv (comeH p m n) := by
  unfold comeH HubS.take
  cases hh : heardB p.h.me p.h.other [2, 3] m with
  | false => simp only [Bool.false_eq_true, if_false, repsS, sendsL]; exact inv_net h hn
  | true =>
    have hk := heard_mem hh
    simp only [List.mem_cons, List.not_mem_nil, or_false] at hk
    obtain ⟨hm1, hm2, hm3⟩ := hm
    have hlt : (m.n - 1).toNat < p.h.l.length := by omega
    obtain ⟨r, hr⟩ : ∃ r, p.h.l[(m.n - 1).toNat]? = some r := ⟨_, List.getElem?_eq_getElem hlt⟩
    have hidx : (((m.n - 1).toNat : Nat) : Int) + 1 = m.n := by omega
    have hf : findR m.n p.h.l = some r := by have := findR_pos h.h hr; rwa [hidx] at this
    simp only [if_true, hf]
    have hrun : ∀ (i : Nat) r0, p.h.l[i]? = some r0 → r0.run = m.n → i = (m.n - 1).toNat ∧ r0 = r := fun i r0 h0 h1 => by
      have h2 := (h.h.req i r0 h0).1
      have e : i = (m.n - 1).toNat := by omega
      subst e
      rw [hr] at h0
      injection h0 with h0
      exact ⟨rfl, h0.symm⟩
    have hreq : ∀ (st : Int) (i : Nat) r1, (setR m.n st p.h.l)[i]? = some r1 → r1.run = (i : Int) + 1 ∧ r1.code = ((i : Int) + 1) % 3 ∧ 0 ≤ r1.mins ∧ r1.mins ≤ 11 := fun st i r1 h1 => by
      obtain ⟨r0, h0, rfl⟩ := setR_get h1
      have := h.h.req i r0 h0
      split <;> exact this
    rcases hk with hk | hk
    · simp only [hk, if_true, repsS, sendsL]
      refine ⟨⟨h.h.me, by rw [setR_length]; exact h.h.run, by simp only [setR_length]; exact h.h.ends, by simp only [setR_length]; exact h.h.seenL, hreq _, by simp only [setR_length]; exact h.h.frm, by simp only [setR_length]; exact h.h.win, fun i r1 h1 => ?_⟩, h.a.hub rfl rfl (Int.le_refl _) (by simp only [setR_length]; omega) (Nat.le_refl _), fun x hx => (hn x hx).mono (by simp only [setR_length]; omega) (Nat.le_refl _) (fun _ _ h _ => h) (Int.le_refl _), h.ok, h.clock⟩
      obtain ⟨r0, h0, rfl⟩ := setR_get h1
      have hs := h.h.seen i r0 h0
      simp only
      split
      · rename_i he
        obtain ⟨_, rfl⟩ := hrun i r0 h0 he
        rw [hs]
        simp only
        have : (max r0.state 1 = 2) ↔ (r0.state = 2) := by omega
        simp only [this]
      · exact hs
    · have hk2 : ¬ m.kind = 2 := by omega
      simp only [hk2, if_false]
      rcases hm3 with ⟨h3, _⟩ | h3 | ⟨_, hcode, e, he, he0, hec⟩ | h3
      · omega
      · omega
      · have hse := h.h.seenL
        have hsr := h.h.seen _ r hr
        have hen := getD_of' he
        have key : ∀ (q : PlayS), q.h = { p.h with l := setR m.n 2 p.h.l, frm := advR (setR m.n 2 p.h.l) p.h.frm } → q.a = p.a → q.clock = p.clock → q.run = p.run → q.ends = p.ends → q.n = sendsL [sayM p.h.me p.h.other 4 m.n 0] n → q.bad = false → q.seen.length = p.h.l.length →
            (∀ (i : Nat) r1, (setR m.n 2 p.h.l)[i]? = some r1 → q.seen[i]? = some (if r1.state = 2 then 1 else 0)) → Inv q := by
          intro q q1 q2 q3 q4 q5 q6 q7 q8 q9
          have hle := advR_le (setR m.n 2 p.h.l) p.h.frm (by rw [setR_length]; exact h.h.frm)
          have hge := advR_ge (setR m.n 2 p.h.l) p.h.frm
          rw [setR_length] at hle
          refine ⟨⟨by rw [q1]; exact h.h.me, by rw [q1, q4]; simp only [setR_length]; exact h.h.run, by rw [q1, q5]; simp only [setR_length]; exact h.h.ends, by rw [q1]; simp only [setR_length]; exact q8, fun i r1 h1 => by rw [q1] at h1; exact hreq _ i r1 h1, by rw [q1]; simp only [setR_length]; exact hle, by rw [q1]; simp only [setR_length]; have := h.h.win; omega, fun i r1 h1 => by rw [q1] at h1; exact q9 i r1 h1⟩,
            h.a.hub q2 q5 (by rw [q3]; exact Int.le_refl _) (by rw [q1]; simp only [setR_length]; omega) (by rw [q1]; exact hge), fun x hx => ?_, q7, by rw [q3]; exact h.clock⟩
          rw [q6] at hx
          rcases sendsL_mem hx with hx | hx
          · simp only [List.mem_singleton] at hx
            subst hx
            refine ⟨hm1, by rw [q1]; simp only [setR_length]; exact hm2, .inr (.inr (.inr rfl))⟩
          · exact (hn x hx).mono (by rw [q1]; simp only [setR_length]; omega) (by rw [q1]; exact hge) (fun _ _ h _ => by rw [q5]; exact h) (by rw [q3]; exact Int.le_refl _)
        by_cases hst : r.state = 2
        · simp only [hst, if_true, repsS]
          refine key _ rfl rfl rfl rfl rfl rfl h.ok hse fun i r1 h1 => ?_
          obtain ⟨r0, h0, rfl⟩ := setR_get h1
          have hs := h.h.seen i r0 h0
          simp only
          split
          · rename_i hre
            obtain ⟨_, rfl⟩ := hrun i r0 h0 hre
            rw [hs, hst]
          · exact hs
        · simp only [hst, if_false, repsS, repS]
          have c1 : ¬ (m.n < 1 ∨ (p.seen.length : Int) < m.n) := by omega
          simp only [c1, if_false]
          rw [hst' hst] at hsr
          refine key _ rfl rfl rfl rfl rfl rfl ?_ (by simp only [List.length_set]; exact hse) fun i r1 h1 => ?_
          · simp only [hen, h.ok, Bool.false_or]
            rw [tmod3 _ (by omega), ← hcode]
            have d1 : ¬ e < 0 := by omega
            have d2 : ¬ p.clock < e := by omega
            simp [d1, d2]
          · obtain ⟨r0, h0, rfl⟩ := setR_get h1
            have hs := h.h.seen i r0 h0
            simp only
            have hg := getD_of' hsr
            rw [hg]
            split
            · rename_i hre
              obtain ⟨rfl, rfl⟩ := hrun i r0 h0 hre
              rw [List.getElem?_set_self (by omega)]
              simp
            · rename_i hre
              have hne : i ≠ (m.n - 1).toNat := by
                intro e1
                subst e1
                rw [hr] at h0
                injection h0 with h0
                subst h0
                have := (h.h.req _ r hr).1
                omega
              rw [List.getElem?_set_ne (fun e1 => hne e1.symm)]
              exact hs
      · omega

/-- another agent at the play, its runs alike -/
theorem InvA.turn {p p' : PlayS} (h : InvA p) (hh : p'.h = p.h) (he : p'.ends = p.ends) (hc : p'.clock = p.clock) (hm : p'.a.me = p.a.me ∧ p'.a.other = p.a.other) (hl : p'.a.low = p.a.low) (hb : p'.a.begun = p.a.begun)
    (hr : p'.a.l.map WorkS.run = p.a.l.map WorkS.run) (hw : ∀ x ∈ p'.a.l, ∃ y ∈ p.a.l, x.run = y.run ∧ x.code = y.code ∧ x.fin = y.fin ∧ (x.over = true → y.over = true ∨ y.fin ≤ p.clock)) : InvA p' := by
  obtain ⟨h1, h2, h3, h4, h5, h6⟩ := h
  refine ⟨by rw [hm.1, hm.2]; exact h1, h2.runs hr, fun x hx => ?_, by rw [hl, hh]; exact h4, fun i e hi h0 => ?_, by rw [hb, he]; exact h6⟩
  · obtain ⟨y, hy, e1, e2, e3, e4⟩ := hw x hx
    obtain ⟨a, b, c, d, e, f, g, k⟩ := h3 y hy
    rw [hl, hh, he, hc, e1, e2, e3]
    refine ⟨a, b, c, d, e, f, g, fun ho => ?_⟩
    rcases e4 ho with h7 | h7
    · exact k h7
    · exact h7
  · rw [he] at hi
    rw [hl]
    rcases h5 i e hi h0 with ⟨x, hx, hxr⟩ | h7
    · left
      have h8 : x.run ∈ p'.a.l.map WorkS.run := by rw [hr]; exact List.mem_map.2 ⟨x, hx, rfl⟩
      obtain ⟨y, hy, hyr⟩ := List.mem_map.1 h8
      exact ⟨y, hy, by rw [hyr, hxr]⟩
    · exact .inr h7
theorem set_runs {l : List WorkS} {k : Nat} {x y : WorkS} (hx : l[k]? = some x) (he : y.run = x.run) : (l.set k y).map WorkS.run = l.map WorkS.run := by
  rw [List.map_set, he]
  apply List.ext_getElem?
  intro i
  rw [List.getElem?_set]
  by_cases hi : k = i
  · subst hi
    have := (List.getElem?_eq_some_iff.1 hx).1
    rw [if_pos rfl, if_pos (by simpa using this), List.getElem?_map, hx]
    rfl
  · rw [if_neg hi]
theorem set_mem {l : List WorkS} {k : Nat} {x y z : WorkS} (hx : l[k]? = some x) (hz : z ∈ l.set k y) : z = y ∨ z ∈ l := (List.mem_or_eq_of_mem_set hz).symm
theorem forget_inv {p : PlayS} (h : Inv p) {low : Int} (hl : 1 ≤ low ∧ low ≤ (p.h.frm : Int) + 1) : InvA { p with a := p.a.forget low } ∧ low ≤ (p.a.forget low).low := by
  unfold AgS.forget
  split
  · rename_i hlt
    refine ⟨⟨h.a.me, h.a.sorted.drop _, fun x hx => ?_, hl, fun i e hi h0 => ?_, h.a.cnt⟩, Int.le_refl _⟩
    · obtain ⟨a, b, c⟩ := h.a.work x (List.mem_of_mem_drop hx)
      have := posA_drop h.a.sorted hx
      exact ⟨this, by simp only; omega, c⟩
    · rcases h.a.begun i e hi h0 with ⟨x, hx, hxr⟩ | h7
      · by_cases hc : low ≤ x.run
        · exact .inl ⟨x, mem_drop_posA hx hc, hxr⟩
        · right; simp only; omega
      · right; simp only; omega
  · exact ⟨⟨h.a.me, h.a.sorted, h.a.work, h.a.low, h.a.begun, h.a.cnt⟩, by omega⟩
theorem filter_set_count : ∀ {l : List Int} {i : Nat} {x v : Int}, l[i]? = some x → x < 0 → 0 ≤ v → ((l.set i v).filter fun e => decide (0 ≤ e)).length = (l.filter fun e => decide (0 ≤ e)).length + 1
  | [], _, _, _, h, _, _ => by cases h
  | y :: l, 0, x, v, h, h1, h2 => by
    simp only [List.getElem?_cons_zero, Option.some.injEq] at h
    subst h
    have d1 : ¬ 0 ≤ y := by omega
    simp [List.filter_cons, d1, h2]
  | y :: l, i + 1, x, v, h, h1, h2 => by
    simp only [List.getElem?_cons_succ] at h
    have := filter_set_count h h1 h2
    simp only [List.set_cons_succ, List.filter_cons]
    split
    · simp only [List.length_cons]; omega
    · exact this
theorem inv_comeA {p : PlayS} (h : Inv p) {m : Msg} {n : List Msg} (hm : MsgOk p m) (hn : ∀ x ∈ n, MsgOk p x) : Inv (comeA p m n) := by
  -- nothing but the agent's state and the messages turn
  have key0 : ∀ (a : AgS) (ms : List Msg), a.begun = p.a.begun → InvA { p with a := a } → (∀ x ∈ ms, MsgOk p x) → ∀ (t : AgS × List Msg × Int), t = (a, ms, t.2.2) → Inv (if p.a.begun < t.1.begun ∧ 1 ≤ m.n ∧ m.n ≤ p.ends.length then
    { p with a := t.1, n := sendsL t.2.1 n, bad := p.bad || decide (0 ≤ p.ends.getD (m.n - 1).toNat 0), ends := p.ends.set (m.n - 1).toNat (p.clock + m.mins) }
    else { p with a := t.1, n := sendsL t.2.1 n }) := by
    intro a ms hb ha hms t ht
    have e1 : t.1 = a := by rw [ht]
    have e2 : t.2.1 = ms := by rw [ht]
    rw [e1, e2, hb]
    rw [if_neg (by omega)]
    exact ⟨⟨h.h.me, h.h.run, h.h.ends, h.h.seenL, h.h.req, h.h.frm, h.h.win, h.h.seen⟩, ⟨ha.me, ha.sorted, ha.work, ha.low, ha.begun, ha.cnt⟩, fun x hx => by
      rcases sendsL_mem hx with hx | hx
      · exact hms x hx
      · exact hn x hx, h.ok, h.clock⟩
  have same : InvA { p with a := p.a } := ⟨h.a.me, h.a.sorted, h.a.work, h.a.low, h.a.begun, h.a.cnt⟩
  unfold comeA AgS.take
  cases hh : heardB p.a.me p.a.other [1, 4] m with
  | false => simp only [Bool.false_eq_true, if_false]; exact key0 p.a [] rfl same (by simp) (p.a, [], 1) rfl
  | true =>
    simp only [if_true]
    cases hc : isClockB p.clock with
    | false => simp only [Bool.false_eq_true, if_false]; exact key0 p.a [] rfl same (by simp) (p.a, [], 31) rfl
    | true =>
      simp only [if_true]
      have hk := heard_mem hh
      simp only [List.mem_cons, List.not_mem_nil, or_false] at hk
      obtain ⟨hm1, hm2, hm3⟩ := hm
      by_cases hk1 : m.kind = 1
      · simp only [hk1, if_true]
        have hst : m.kind = 1 ∧ m.code = m.n % 3 ∧ 0 ≤ m.mins ∧ m.mins ≤ 11 ∧ 1 ≤ m.low ∧ m.low ≤ (p.h.frm : Int) + 1 ∧ m.n ≤ m.low + 63 := by
          rcases hm3 with h3 | h3 | h3 | h3
          · exact h3
          · omega
          · omega
          · omega
        obtain ⟨_, s2, s3, s4, s5, s6, s7⟩ := hst
        unfold AgS.start
        split
        case isFalse => exact key0 p.a [] rfl same (by simp) (p.a, [], 1) rfl
        case isTrue =>
          obtain ⟨hb, hlow⟩ := forget_inv h ⟨s5, s6⟩
          have hfb : (p.a.forget m.low).begun = p.a.begun := by unfold AgS.forget; split <;> rfl
          have hme : (p.a.forget m.low).me = p.a.me ∧ (p.a.forget m.low).other = p.a.other := by unfold AgS.forget; split <;> exact ⟨rfl, rfl⟩
          generalize p.a.forget m.low = b at hb hlow hfb hme ⊢
          simp only
          by_cases hlt : m.n < b.low
          · simp only [hlt, if_true]
            exact key0 b [] hfb hb (by simp) (b, [], 0) rfl
          · simp only [hlt, if_false]
            cases hat : atA m.n b.l with
            | some x =>
              obtain ⟨hx, hxr⟩ := atA_some hat
              have hxm : x ∈ b.l := List.mem_of_getElem? hx
              obtain ⟨w1, w2, w3, w4, w5, w6, w7, w8⟩ := hb.work x hxm
              simp only
              by_cases ho : x.over = true
              · simp only [ho, if_true]
                refine key0 { b with l := b.l.set (posA m.n b.l) { x with over := true, sent := p.clock } } [sayM p.a.me p.a.other 3 x.run x.code] hfb ?_ ?_ (_, [sayM p.a.me p.a.other 3 x.run x.code], 0) rfl
                · refine hb.turn rfl rfl rfl ⟨rfl, rfl⟩ rfl rfl (set_runs hx rfl) fun z hz => ?_
                  rcases set_mem hx hz with rfl | hz
                  · exact ⟨x, hxm, rfl, rfl, rfl, fun _ => .inl ho⟩
                  · exact ⟨z, hz, rfl, rfl, rfl, fun h => .inl h⟩
                · intro z hz
                  simp only [List.mem_singleton] at hz
                  subst hz
                  exact ⟨w3, w4, .inr (.inr (.inl ⟨rfl, w5, x.fin, w6, w7, w8 ho⟩))⟩
              · simp only [Bool.not_eq_true] at ho
                simp only [ho, Bool.false_eq_true, if_false]
                refine key0 b [sayM p.a.me p.a.other 2 m.n 0] hfb hb ?_ (b, [sayM p.a.me p.a.other 2 m.n 0], 0) rfl
                intro z hz
                simp only [List.mem_singleton] at hz
                subst hz
                exact ⟨hm1, hm2, .inr (.inl rfl)⟩
            | none =>
              simp only
              by_cases hfull : 64 ≤ b.l.length
              · simp only [hfull, if_true]
                exact key0 b [] hfb hb (by simp) (b, [], 4) rfl
              · simp only [hfull, if_false]
                have hno := atA_none hb.sorted hat
                have hends := h.h.ends
                rw [if_pos ⟨by rw [hfb]; omega, hm1, by omega⟩]
                obtain ⟨e, he⟩ : ∃ e, p.ends[(m.n - 1).toNat]? = some e := ⟨_, List.getElem?_eq_getElem (by omega)⟩
                have hneg : e < 0 := by
                  rcases Int.lt_or_le e 0 with h0 | h0
                  · exact h0
                  · exfalso
                    rcases hb.begun _ e he h0 with ⟨x, hx, hxr⟩ | h7
                    · exact hno x hx (by omega)
                    · simp only at h7; omega
                have hset : ∀ (i : Nat) (v : Int), p.ends[i]? = some v → 0 ≤ v → (p.ends.set (m.n - 1).toNat (p.clock + m.mins))[i]? = some v := fun i v hi h0 => by
                  by_cases hie : (m.n - 1).toNat = i
                  · subst hie
                    rw [he] at hi
                    injection hi with hi
                    omega
                  · rw [List.getElem?_set_ne hie]; exact hi
                have hclk := h.clock
                refine ⟨⟨h.h.me, h.h.run, by simp only [List.length_set]; exact h.h.ends, h.h.seenL, h.h.req, h.h.frm, h.h.win, h.h.seen⟩, ⟨hb.me, insA_sorted hb.sorted (x := ⟨m.n, false, false, p.clock + m.mins, m.code, 0⟩) hno, fun x hx => ?_, hb.low, fun i v hi h0 => ?_, ?_⟩, fun x hx => ?_, ?_, h.clock⟩
                · rcases insA_mem hx with rfl | hx
                  · refine ⟨by simp only; omega, by simp only; omega, hm1, hm2, s2, ?_, by simp only; omega, fun h => by cases h⟩
                    simp only
                    rw [List.getElem?_set_self (by omega)]
                  · obtain ⟨w1, w2, w3, w4, w5, w6, w7, w8⟩ := hb.work x hx
                    exact ⟨w1, w2, w3, w4, w5, hset _ _ w6 w7, w7, w8⟩
                · simp only at hi
                  by_cases hie : (m.n - 1).toNat = i
                  · subst hie
                    left
                    exact ⟨_, insA_of (.inl rfl), by simp only; omega⟩
                  · rw [List.getElem?_set_ne hie] at hi
                    rcases hb.begun i v hi h0 with ⟨x, hx, hxr⟩ | h7
                    · exact .inl ⟨x, insA_of (.inr hx), hxr⟩
                    · exact .inr h7
                · simp only
                  rw [filter_set_count he hneg (by omega), ← hb.cnt]
                · rcases sendsL_mem hx with hx | hx
                  · simp only [List.mem_singleton] at hx
                    subst hx
                    exact ⟨hm1, hm2, .inr (.inl rfl)⟩
                  · exact (hn x hx).mono (Nat.le_refl _) (Nat.le_refl _) hset (Int.le_refl _)
                · simp only [h.ok, Bool.false_or]
                  rw [getD_of' he]
                  simp only [decide_eq_false_iff_not]; omega
      · simp only [hk1, if_false]
        cases hat : atA m.n p.a.l with
        | none => exact key0 p.a [] rfl same (by simp) (p.a, [], 0) rfl
        | some x =>
          obtain ⟨hx, hxr⟩ := atA_some hat
          have hxm : x ∈ p.a.l := List.mem_of_getElem? hx
          refine key0 { p.a with l := p.a.l.set (posA m.n p.a.l) { x with known := x.over } } [] rfl ?_ (by simp) (_, [], 0) rfl
          refine same.turn rfl rfl rfl ⟨rfl, rfl⟩ rfl rfl (set_runs hx rfl) fun z hz => ?_
          rcases set_mem hx hz with rfl | hz
          · exact ⟨x, hxm, rfl, rfl, rfl, fun h => .inl h⟩
          · exact ⟨z, hz, rfl, rfl, rfl, fun h => .inl h⟩

theorem tickR_get {p : PlayS} {c : Int} {i : Nat} {r : Req} (h : (p.h.tick c).1.l[i]? = some r) : ∃ r0, p.h.l[i]? = some r0 ∧ r.run = r0.run ∧ r.code = r0.code ∧ r.mins = r0.mins ∧ r.state = r0.state := by
  unfold HubS.tick at h
  split at h
  · simp only at h
    rw [List.getElem?_append] at h
    have hl : (p.h.l.take p.h.frm).length = min p.h.frm p.h.l.length := List.length_take
    split at h
    · rw [List.getElem?_take] at h
      split at h
      · exact ⟨r, h, rfl, rfl, rfl, rfl⟩
      · cases h
    · rename_i hi
      rw [List.getElem?_map, List.getElem?_drop] at h
      cases h0 : p.h.l[p.h.frm + (i - (p.h.l.take p.h.frm).length)]? with
      | none => rw [h0] at h; cases h
      | some r0 =>
        rw [h0] at h
        injection h with h
        have hlt := (List.getElem?_eq_some_iff.1 h0).1
        have e : p.h.frm + (i - (p.h.l.take p.h.frm).length) = i := by omega
        rw [e] at h0
        refine ⟨r0, h0, ?_⟩
        subst h
        simp only
        by_cases hb : againB c r0 = true <;> simp [hb]
  · exact ⟨r, h, rfl, rfl, rfl, rfl⟩
theorem tickH_len (h : HubS) (c : Int) : (h.tick c).1.l.length = h.l.length ∧ (h.tick c).1.frm = h.frm ∧ (h.tick c).1.me = h.me ∧ (h.tick c).1.other = h.other := by
  unfold HubS.tick
  split
  · refine ⟨?_, rfl, rfl, rfl⟩
    simp only [List.length_append, List.length_map, List.length_take, List.length_drop]
    omega
  · exact ⟨rfl, rfl, rfl, rfl⟩
theorem tickA_get {a : AgS} {c : Int} {x : WorkS} (h : x ∈ (a.tick c).1.l) : ∃ y ∈ a.l, x.run = y.run ∧ x.code = y.code ∧ x.fin = y.fin ∧ (x.over = true → y.over = true ∨ y.fin ≤ c) := by
  unfold AgS.tick at h
  split at h
  · obtain ⟨y, hy, rfl⟩ := List.mem_map.1 h
    refine ⟨y, hy, ?_⟩
    split
    · rename_i ht
      refine ⟨rfl, rfl, rfl, fun _ => ?_⟩
      unfold tellB at ht
      simp only [Bool.or_eq_true, Bool.and_eq_true, Bool.not_eq_true', decide_eq_true_eq] at ht
      rcases ht with ⟨_, h1⟩ | ⟨⟨h1, _⟩, _⟩
      · exact .inr h1
      · exact .inl h1
    · exact ⟨rfl, rfl, rfl, fun h => .inl h⟩
  · exact ⟨x, h, rfl, rfl, rfl, fun h => .inl h⟩
theorem tickA_runs (a : AgS) (c : Int) : (a.tick c).1.l.map WorkS.run = a.l.map WorkS.run ∧ (a.tick c).1.me = a.me ∧ (a.tick c).1.other = a.other ∧ (a.tick c).1.low = a.low ∧ (a.tick c).1.begun = a.begun := by
  unfold AgS.tick
  split
  · refine ⟨?_, rfl, rfl, rfl, rfl⟩
    simp only [List.map_map]
    apply List.map_congr_left
    intro x _
    simp only [Function.comp]
    split <;> rfl
  · exact ⟨rfl, rfl, rfl, rfl, rfl⟩
theorem tickH_msg {p : PlayS} (h : InvH p) {c : Int} {m : Msg} (hm : m ∈ (p.h.tick c).2) : MsgOk p m := by
  unfold HubS.tick at hm
  split at hm
  · obtain ⟨r, hr, rfl⟩ := List.mem_map.1 hm
    obtain ⟨j, hj⟩ := List.getElem?_of_mem ((List.mem_filter.1 hr).1)
    rw [List.getElem?_drop] at hj
    obtain ⟨h1, h2, h3, h4⟩ := h.req _ r hj
    have hlt := (List.getElem?_eq_some_iff.1 hj).1
    have hw := h.win
    have hlow := low_eq h
    refine ⟨?_, ?_, .inl ⟨rfl, ?_, h3, h4, ?_, ?_, ?_⟩⟩ <;> simp only [startM]
    · omega
    · omega
    · rw [h2, h1]
    · omega
    · omega
    · omega
  · cases hm
theorem inv_tick {p : PlayS} (h : Inv p) : Inv (tickS p) := by
  obtain ⟨l1, l2, l3, l4⟩ := tickH_len p.h (p.clock + 1)
  obtain ⟨r1, r2, r3, r4, r5⟩ := tickA_runs p.a (p.clock + 1)
  have hA : InvA { p with clock := p.clock + 1 } := h.a.hub rfl rfl (by simp only; omega) (Nat.le_refl _) (Nat.le_refl _)
  have hA2 : InvA { p with clock := p.clock + 1, a := (p.a.tick (p.clock + 1)).1 } := hA.turn rfl rfl rfl ⟨r2, r3⟩ r4 r5 r1 (fun x hx => tickA_get hx)
  have hc := h.clock
  refine ⟨⟨by simp only [tickS]; rw [l3, l4]; exact h.h.me, by simp only [tickS]; rw [l1]; exact h.h.run, by simp only [tickS]; rw [l1]; exact h.h.ends, by simp only [tickS]; rw [l1]; exact h.h.seenL, fun i r hr => ?_, by simp only [tickS]; rw [l1, l2]; exact h.h.frm, by simp only [tickS]; rw [l1, l2]; exact h.h.win, fun i r hr => ?_⟩,
    hA2.hub rfl rfl (Int.le_refl _) (by simp only [tickS]; omega) (by simp only [tickS]; omega), fun m hm => ?_, h.ok, by simp only [tickS]; omega⟩
  · obtain ⟨r0, h0, e1, e2, e3, _⟩ := tickR_get hr
    rw [e1, e2, e3]
    exact h.h.req i r0 h0
  · obtain ⟨r0, h0, _, _, _, e4⟩ := tickR_get hr
    rw [e4]
    exact h.h.seen i r0 h0
  · have mono : ∀ {m : Msg}, MsgOk p m → MsgOk (tickS p) m := fun hm => hm.mono (by simp only [tickS]; omega) (by simp only [tickS]; omega) (fun _ _ h _ => h) (by simp only [tickS]; omega)
    simp only [tickS] at hm
    rcases sendsL_mem hm with hm | hm
    · unfold AgS.tick at hm
      split at hm
      · obtain ⟨x, hx, rfl⟩ := List.mem_map.1 hm
        have hxl := (List.mem_filter.1 hx).1
        have ht := (List.mem_filter.1 hx).2
        obtain ⟨w1, w2, w3, w4, w5, w6, w7, w8⟩ := h.a.work x hxl
        have hfin : x.fin ≤ p.clock + 1 := by
          unfold tellB at ht
          simp only [Bool.or_eq_true, Bool.and_eq_true, Bool.not_eq_true', decide_eq_true_eq] at ht
          rcases ht with ⟨_, h1⟩ | ⟨⟨h1, _⟩, _⟩
          · exact h1
          · have := w8 h1; omega
        refine ⟨w3, ?_, .inr (.inr (.inl ⟨rfl, w5, x.fin, w6, w7, hfin⟩))⟩
        simp only [tickS]
        rw [l1]
        exact w4
      · cases hm
    · rcases sendsL_mem hm with hm | hm
      · exact mono (tickH_msg h.h hm)
      · exact mono (h.msg m hm)
theorem inv_ticks : ∀ (k : Nat) {p : PlayS}, Inv p → Inv (ticksS k p)
  | 0, _, h => h
  | k + 1, _, h => inv_ticks k (inv_tick h)
theorem inv_come {p : PlayS} (h : Inv p) (i : Nat) : Inv (comeS p i) := by
  unfold comeS
  cases hm : p.n[i]? with
  | none => exact h
  | some m =>
    have h1 := h.msg m (List.mem_of_getElem? hm)
    have h2 : ∀ x ∈ p.n.eraseIdx i, MsgOk p x := fun x hx => h.msg x (eraseIdx_mem hx)
    simp only
    split
    · exact inv_comeA h h1 h2
    · exact inv_comeH h h1 h2
theorem inv_twice {p : PlayS} (h : Inv p) (i : Int) : Inv { p with n := twiceL p.n i } := by
  refine inv_net h fun m hm => ?_
  unfold twiceL at hm
  split at hm
  · split at hm
    · exact h.msg m hm
    · split at hm
      · rename_i x hx
        rcases List.mem_append.1 hm with hm | hm
        · exact h.msg m hm
        · simp only [List.mem_singleton] at hm
          subst hm
          exact h.msg m (List.mem_of_getElem? hx)
      · exact h.msg m hm
  · exact h.msg m hm
theorem inv_step {p : PlayS} (h : Inv p) (s : AStep) : Inv (stepS p s) := by
  unfold stepS
  split
  · have := countI_range s.n 12 (by omega)
    exact inv_ask h ⟨this.1, by omega⟩
  · split
    · split
      · exact inv_come h _
      · exact h
    · split
      · split
        · exact inv_net h fun m hm => h.msg m (eraseIdx_mem hm)
        · exact h
      · split
        · split
          · exact inv_twice h _
          · exact h
        · exact inv_ticks _ h
def beginS : PlayS := { h := ⟨0, 1, [], 0⟩, a := ⟨1, 0, [], 1, 0⟩, n := [], clock := 100, run := 0, ends := [], seen := [], bad := false }
theorem inv_begin : Inv beginS :=
  ⟨⟨⟨rfl, rfl⟩, rfl, rfl, rfl, fun i r h => by simp [beginS] at h, Nat.le_refl _, by simp [beginS], fun i r h => by simp [beginS] at h⟩,
    ⟨⟨rfl, rfl⟩, List.Pairwise.nil, fun x h => by simp [beginS] at h, ⟨by simp [beginS], by simp [beginS]⟩, fun i e h => by simp [beginS] at h, rfl⟩, fun m h => by simp [beginS] at h, rfl, by simp [beginS]⟩
/-- what the law asks behind each step -/
theorem inv_asks {p : PlayS} (h : Inv p) : p.bad = false ∧ p.a.l.length ≤ 64 ∧ (p.a.begun : Int) ≤ p.run ∧ ∀ (i : Nat) s, p.seen[i]? = some s → s ≤ 1 := by
  refine ⟨h.ok, ?_, ?_, fun i s hs => ?_⟩
  · have := h.a.sorted.len (lo := p.a.low) (hi := p.a.low + 63) (fun x hx => by obtain ⟨a, b, _⟩ := h.a.work x hx; exact ⟨a, b⟩) (by omega)
    omega
  · rw [h.a.cnt, h.h.run, ← h.h.ends]
    have := List.length_filter_le (fun e => decide (0 ≤ e)) p.ends
    omega
  · have hlt := (List.getElem?_eq_some_iff.1 hs).1
    have hl := h.h.seenL
    obtain ⟨r, hr⟩ : ∃ r, p.h.l[i]? = some r := ⟨_, List.getElem?_eq_getElem (by omega)⟩
    have := h.h.seen i r hr
    rw [hs] at this
    injection this with this
    subst this
    split <;> omega
end Go.Proofs.Ytohnchkoldbpcaa

/- agent, the law's play in memory: a hub, an agent, a net, the law's own rows; they lie apart. -/
namespace Go.Proofs.Ytohnchkoldbpcaa
open Go Go.RowKit Go.Proofs

def Sep (F G : Nat → Prop) : Prop := ∀ k, F k → ¬ G k
theorem Sep.symm {F G : Nat → Prop} (h : Sep F G) : Sep G F := fun k hg hf => h k hf hg
theorem Sep.turn {F F' G : Nat → Prop} {n : Nat} (h : Sep F G) (hF : ∀ k, F' k → F k ∨ n ≤ k) (hG : ∀ k, G k → k < n) : Sep F' G := fun k hf hg => by
  rcases hF k hf with h1 | h1
  · exact h k h1 hg
  · have := hG k hg
    omega
theorem HubAt.no_msg {w : World} {p m : Nat} {u : Value} {bs : List Nat} {h : HubS} (H : HubAt w p m u bs h) (k : Nat) (cur : Array Value) (fr : Nat × Nat) (hk : w.heap[k]? = some (Obj.cells cur 26 fr)) : ¬ HubF p m u bs k := by
  rintro (rfl | rfl | hb | hu)
  · have h1 := H.blk
    unfold Blk at h1
    rw [hk] at h1
    injection h1 with h1
    injection h1 with _ h1
    exact absurd h1 (by decide)
  · exact H.map.not_cells _ _ _ hk
  · obtain ⟨r, _, h1⟩ := H.b_blk hb
    unfold Blk at h1
    rw [hk] at h1
    injection h1 with h1
    injection h1 with _ h1
    exact absurd h1 (by decide)
  · obtain ⟨cur', h1⟩ := row_type H.row k hu
    rw [hk] at h1
    injection h1 with h1
    injection h1 with _ h1
    exact absurd h1 (by decide)
theorem AgAt.no_msg {w : World} {q : Nat} {u : Value} {bs : List Nat} {a : AgS} (H : AgAt w q u bs a) (k : Nat) (cur : Array Value) (fr : Nat × Nat) (hk : w.heap[k]? = some (Obj.cells cur 26 fr)) : ¬ AgF q u bs k := by
  rintro (rfl | hb | hu)
  · have h1 := H.blk
    unfold Blk at h1
    rw [hk] at h1
    injection h1 with h1
    injection h1 with _ h1
    exact absurd h1 (by decide)
  · obtain ⟨r, _, h1⟩ := H.b_blk hb
    unfold Blk at h1
    rw [hk] at h1
    injection h1 with h1
    injection h1 with _ h1
    exact absurd h1 (by decide)
  · obtain ⟨cur', h1⟩ := row_type H.row k hu
    rw [hk] at h1
    injection h1 with h1
    injection h1 with _ h1
    exact absurd h1 (by decide)
structure PlB where
  p0 : Nat
  hp : Nat
  hm : Nat
  hu : Value
  hbs : List Nat
  aq : Nat
  au : Value
  abs : List Nat
  np : Nat
  nm : Nat
  ve : Value
  vs : Value
def PlB.H (b : PlB) : Nat → Prop := HubF b.hp b.hm b.hu b.hbs
def PlB.A (b : PlB) : Nat → Prop := AgF b.aq b.au b.abs
def PlB.N (b : PlB) (k : Nat) : Prop := k = b.np ∨ k = b.nm
def PlB.P (b : PlB) (k : Nat) : Prop := k = b.p0 ∨ b.ve.ownBlock = some k ∨ b.vs.ownBlock = some k
abbrev plV (b : PlB) (p : PlayS) : List Value := [.pointer (some ⟨b.hp, 0, none⟩), .pointer (some ⟨b.aq, 0, none⟩), .pointer (some ⟨b.np, 0, none⟩), .int .i64 p.clock, .int .i64 p.run, b.ve, b.vs, .bool p.bad]
structure PlAt (B : Nat) (w : World) (b : PlB) (p : PlayS) : Prop where
  blk : Blk w b.p0 54 (plV b p)
  hub : HubAt w b.hp b.hm b.hu b.hbs p.h
  ag : AgAt w b.aq b.au b.abs p.a
  net : NetAt w b.np b.nm p.n []
  ends : w.ownsRow B 2 1 b.ve p.ends.length (encN p.ends)
  seen : w.ownsRow B 3 1 b.vs p.seen.length (encN p.seen)
  ha : Sep b.H b.A
  hn : Sep b.H b.N
  hP : Sep b.H b.P
  an : Sep b.A b.N
  aP : Sep b.A b.P
  nP : Sep b.N b.P
  low : ∀ k, (b.H k ∨ b.A k ∨ b.N k ∨ b.P k) → B ≤ k
section
variable {B : Nat} {w w' : World} {b : PlB} {p : PlayS}
theorem PlAt.ltH (X : PlAt B w b p) : ∀ k, b.H k → k < w.heap.size := X.hub.lt
theorem PlAt.ltA (X : PlAt B w b p) : ∀ k, b.A k → k < w.heap.size := X.ag.lt
theorem PlAt.ltN (X : PlAt B w b p) : ∀ k, b.N k → k < w.heap.size := by
  rintro k (rfl | rfl)
  · exact X.net.lt
  · exact X.net.ltm
theorem PlAt.ltP (X : PlAt B w b p) : ∀ k, b.P k → k < w.heap.size := by
  rintro k (rfl | h | h)
  · exact X.blk.lt
  · exact (own_size X.ends k h).2
  · exact (own_size X.seen k h).2
theorem PlAt.size (X : PlAt B w b p) : B ≤ w.heap.size := by
  have h1 := X.low b.p0 (.inr (.inr (.inr (.inl rfl))))
  have h2 := X.blk.lt
  omega
/-- what the play keeps when others change -/
theorem PlAt.keepP {S : Nat → Prop} (X : PlAt B w b p) (hf : Fr S w w') (hS : ∀ k, b.P k → ¬ S k) :
    Blk w' b.p0 54 (plV b p) ∧ w'.ownsRow B 2 1 b.ve p.ends.length (encN p.ends) ∧ w'.ownsRow B 3 1 b.vs p.seen.length (encN p.seen) :=
  ⟨X.blk.fr hf (hS _ (.inl rfl)), own_fr X.ends hf fun k hk => hS k (.inr (.inl hk)), own_fr X.seen hf fun k hk => hS k (.inr (.inr hk))⟩
theorem PlAt.fr0 (X : PlAt B w b p) (hf : Fr No w w') : PlAt B w' b p :=
  ⟨X.blk.fr hf (fun h => h), X.hub.fr0 hf, X.ag.fr0 hf, X.net.fr0 hf, own_fr0 X.ends hf, own_fr0 X.seen hf, X.ha, X.hn, X.hP, X.an, X.aP, X.nP, X.low⟩
theorem PlAt.turnH (X : PlAt B w b p) {hu' : Value} {hbs' : List Nat} {h' : HubS} (hh : HubAt w' b.hp b.hm hu' hbs' h') (hf : Fr b.H w w') (hF : ∀ k, HubF b.hp b.hm hu' hbs' k → b.H k ∨ w.heap.size ≤ k) :
    PlAt B w' { b with hu := hu', hbs := hbs' } { p with h := h' } := by
  obtain ⟨k1, k2, k3⟩ := X.keepP hf X.hP.symm
  refine ⟨k1, hh, X.ag.fr hf X.ha.symm, X.net.fr hf (X.hn.symm _ (.inl rfl)) (X.hn.symm _ (.inr rfl)) X.hub.no_msg, k2, k3, X.ha.turn hF X.ltA, X.hn.turn hF X.ltN, X.hP.turn hF X.ltP, X.an, X.aP, X.nP, ?_⟩
  rintro k (h | h)
  · rcases hF k h with h | h
    · exact X.low k (.inl h)
    · exact Nat.le_trans X.size h
  · exact X.low k (.inr h)
theorem PlAt.turnA (X : PlAt B w b p) {au' : Value} {abs' : List Nat} {a' : AgS} (hh : AgAt w' b.aq au' abs' a') (hf : Fr b.A w w') (hF : ∀ k, AgF b.aq au' abs' k → b.A k ∨ w.heap.size ≤ k) :
    PlAt B w' { b with au := au', abs := abs' } { p with a := a' } := by
  obtain ⟨k1, k2, k3⟩ := X.keepP hf X.aP.symm
  refine ⟨k1, X.hub.fr hf X.ha, hh, X.net.fr hf (X.an.symm _ (.inl rfl)) (X.an.symm _ (.inr rfl)) X.ag.no_msg, k2, k3, (X.ha.symm.turn hF X.ltH).symm, X.hn, X.hP, X.an.turn hF X.ltN, X.aP.turn hF X.ltP, X.nP, ?_⟩
  rintro k (h | h | h)
  · exact X.low k (.inl h)
  · rcases hF k h with h | h
    · exact X.low k (.inr (.inl h))
    · exact Nat.le_trans X.size h
  · exact X.low k (.inr (.inr h))
theorem PlAt.turnN (X : PlAt B w b p) {n' : List Msg} (hh : NetAt w' b.np b.nm n' []) (hf : Fr (· = b.np) w w') : PlAt B w' b { p with n := n' } := by
  have hS : ∀ k, k = b.np → b.N k := fun k hk => .inl hk
  obtain ⟨k1, k2, k3⟩ := X.keepP hf fun k hk e => X.nP k (hS k e) hk
  exact ⟨k1, X.hub.fr hf (fun k hk e => X.hn k hk (hS k e)), X.ag.fr hf (fun k hk e => X.an k hk (hS k e)), hh, k2, k3, X.ha, X.hn, X.hP, X.an, X.aP, X.nP, X.low⟩
theorem PlAt.no_msgP (X : PlAt B w b p) (k : Nat) (cur : Array Value) (fr : Nat × Nat) (hk : w.heap[k]? = some (Obj.cells cur 26 fr)) : ¬ b.P k := by
  rintro (rfl | h | h)
  · have h1 := X.blk
    unfold Blk at h1
    rw [hk] at h1
    injection h1 with h1
    injection h1 with _ h1
    exact absurd h1 (by decide)
  · obtain ⟨cur', h1⟩ := row_type X.ends k h
    rw [hk] at h1
    injection h1 with h1
    injection h1 with _ h1
    exact absurd h1 (by decide)
  · obtain ⟨cur', h1⟩ := row_type X.seen k h
    rw [hk] at h1
    injection h1 with h1
    injection h1 with _ h1
    exact absurd h1 (by decide)
theorem PlAt.turnP (X : PlAt B w b p) {ve' vs' : Value} {p' : PlayS} (eh : p'.h = p.h) (ea : p'.a = p.a) (en : p'.n = p.n) (hf : Fr b.P w w')
    (hb : Blk w' b.p0 54 (plV { b with ve := ve', vs := vs' } p')) (he : w'.ownsRow B 2 1 ve' p'.ends.length (encN p'.ends)) (hs : w'.ownsRow B 3 1 vs' p'.seen.length (encN p'.seen))
    (hF : ∀ k, (ve'.ownBlock = some k ∨ vs'.ownBlock = some k) → b.P k ∨ w.heap.size ≤ k) : PlAt B w' { b with ve := ve', vs := vs' } p' := by
  have hF' : ∀ k, PlB.P { b with ve := ve', vs := vs' } k → b.P k ∨ w.heap.size ≤ k := by
    rintro k (h | h)
    · exact .inl (.inl h)
    · exact hF k h
  refine ⟨hb, by rw [eh]; exact X.hub.fr hf X.hP, by rw [ea]; exact X.ag.fr hf X.aP, ?_, he, hs, X.ha, X.hn, (X.hP.symm.turn hF' X.ltH).symm, X.an, (X.aP.symm.turn hF' X.ltA).symm, (X.nP.symm.turn hF' X.ltN).symm, ?_⟩
  · rw [en]
    exact X.net.fr hf (X.nP _ (.inl rfl)) (X.nP _ (.inr rfl)) X.no_msgP
  · rintro k (h | h | h | h)
    · exact X.low k (.inl h)
    · exact X.low k (.inr (.inl h))
    · exact X.low k (.inr (.inr (.inl h)))
    · rcases hF' k h with h | h
      · exact X.low k (.inr (.inr (.inr h)))
      · exact Nat.le_trans X.size h
theorem PlAt.ve_p0 (X : PlAt B w b p) {k : Nat} (hk : b.ve.ownBlock = some k) : k ≠ b.p0 := row_ne_blk X.ends X.blk (by decide) hk
theorem PlAt.vs_p0 (X : PlAt B w b p) {k : Nat} (hk : b.vs.ownBlock = some k) : k ≠ b.p0 := row_ne_blk X.seen X.blk (by decide) hk
/-- one cell of the play's own block, not a pointer nor a row -/
theorem PlAt.setOne (X : PlAt B w b p) {i : Nat} {v : Value} {p' : PlayS} (eh : p'.h = p.h) (ea : p'.a = p.a) (en : p'.n = p.n) (ee : p'.ends = p.ends) (es : p'.seen = p.seen) (hv : plV b p' = (plV b p).set i v) : PlAt B (w.setCell ⟨b.p0, i, none⟩ v) b p' := by
  have F : Fr (fun j => j = b.p0) w (w.setCell ⟨b.p0, i, none⟩ v) := fr_cell rfl
  have h := X.turnP (ve' := b.ve) (vs' := b.vs) (p' := p') eh ea en (F.mono fun k _ e => .inl e) (by show Blk _ b.p0 _ (plV b p'); rw [hv]; exact X.blk.set_ i v)
    (by rw [ee]; exact own_fr X.ends F fun j hj e => X.ve_p0 hj e) (by rw [es]; exact own_fr X.seen F fun j hj e => X.vs_p0 hj e) (fun k hk => .inl (.inr hk))
  exact h
theorem own_set {w : World} {base n c g : Nat} {t : TypeId} {xs : List Value} (h : w.ownsRow base t 1 (.slice (some ⟨g, 0, none⟩) n c) n xs) (k : Nat) (v : Value) : (w.setCell ⟨g, k, none⟩ v).ownsRow base t 1 (.slice (some ⟨g, 0, none⟩) n c) n (xs.set k v) := by
  obtain ⟨g', cur, hA, hB, h1, h2, h3, h4, h5⟩ := own_blk h
  injection hA with hA
  subst hA
  have := blk_own (n := n) (hB.set_ k v) h5 h1 h2 (by rw [List.length_set]; exact h3)
  rwa [List.take_set, h4] at this
theorem frP {b : PlB} {i : Nat} {v : Value} (w : World) : Fr b.P w (w.setCell ⟨b.p0, i, none⟩ v) := (Fr.refl _ w).setCell (.inl (.inl rfl)) v
theorem PlAt.no_P (X : PlAt B w b p) (t : TypeId) (h1 : t ≠ 54) (h2 : t ≠ 2) (h3 : t ≠ 3) (k : Nat) (cur : Array Value) (fr : Nat × Nat) (hk : w.heap[k]? = some (Obj.cells cur t fr)) : ¬ b.P k := by
  rintro (rfl | h | h)
  · have h1' := X.blk
    unfold Blk at h1'
    rw [hk] at h1'
    injection h1' with h1'
    injection h1' with _ h1'
    exact h1 h1'
  · obtain ⟨cur', h1'⟩ := row_type X.ends k h
    rw [hk] at h1'
    injection h1' with h1'
    injection h1' with _ h1'
    exact h2 h1'
  · obtain ⟨cur', h1'⟩ := row_type X.seen k h
    rw [hk] at h1'
    injection h1' with h1'
    injection h1' with _ h1'
    exact h3 h1'
/-- a row of the play: its block, and a cell of it -/
theorem row_cell {w : World} {base n c : Nat} {t : TypeId} {A : Option Addr} {xs : List Int} (h : w.ownsRow base t 1 (.slice A n c) n (encN xs)) {j : Nat} {x : Int} (hx : xs[j]? = some x) (hn : n = xs.length) :
    ∃ g cur, A = some ⟨g, 0, none⟩ ∧ Blk w g t cur ∧ cur[j]? = some (.int .i64 x) := by
  have hjl := (List.getElem?_eq_some_iff.1 hx).1
  subst hn
  obtain ⟨ga, oa, hA, _⟩ := (Sl.of_own h).cells (by omega)
  subst hA
  obtain ⟨gv, curv, hgv, hBv, _, _, _, hcv4, _⟩ := own_blk h
  injection hgv with hgv1 hgv2
  subst hgv1 hgv2
  refine ⟨ga, curv, rfl, hBv, ?_⟩
  have h1 : (curv.take xs.length)[j]? = (encN xs)[j]? := by rw [hcv4]
  rw [List.getElem?_take_of_lt hjl] at h1
  rw [h1]
  simp [encN, hx]
theorem PlAt.ne_rows (X : PlAt B w b p) {k l : Nat} (hk : b.ve.ownBlock = some k) (hl : b.vs.ownBlock = some l) : k ≠ l := by
  rintro rfl
  obtain ⟨c1, h1⟩ := row_type X.ends k hk
  obtain ⟨c2, h2⟩ := row_type X.seen k hl
  rw [h1] at h2
  injection h2 with h2
  injection h2 with _ h2
  exact absurd h2 (by decide)
theorem PlAt.setEnd (X : PlAt B w b p) {g c : Nat} (hve : b.ve = .slice (some ⟨g, 0, none⟩) p.ends.length c) (j : Nat) (v : Int) :
    PlAt B (w.setCell ⟨g, j, none⟩ (.int .i64 v)) b { p with ends := p.ends.set j v } ∧ Fr b.P w (w.setCell ⟨g, j, none⟩ (.int .i64 v)) := by
  have hgb : b.ve.ownBlock = some g := by rw [hve]; rfl
  have F : Fr (fun k => k = g) w (w.setCell ⟨g, j, none⟩ (.int .i64 v)) := fr_cell rfl
  have F' : Fr b.P w (w.setCell ⟨g, j, none⟩ (.int .i64 v)) := F.mono fun k _ e => .inr (.inl (by have e : k = g := e; rw [e]; exact hgb))
  refine ⟨X.turnP (ve' := b.ve) (vs' := b.vs) rfl rfl rfl F' (X.blk.fr F (fun e => X.ve_p0 hgb e.symm)) ?_ (own_fr X.seen F fun k hk e => ?_) (fun k h => .inl (.inr h)), F'⟩
  · have h1 := X.ends
    rw [hve] at h1 ⊢
    have h2 := own_set h1 j (.int .i64 v)
    rw [show (p.ends.set j v).length = p.ends.length from List.length_set .., show encN (p.ends.set j v) = (encN p.ends).set j (.int .i64 v) by unfold encN; rw [List.map_set]]
    exact h2
  · have e : k = g := e
    obtain ⟨c1, h1⟩ := row_type X.seen k hk
    obtain ⟨c2, h2⟩ := row_type X.ends g hgb
    rw [e, h2] at h1
    injection h1 with h1
    injection h1 with _ h1
    exact absurd h1 (by decide)
theorem PlAt.setSeen (X : PlAt B w b p) {g c : Nat} (hvs : b.vs = .slice (some ⟨g, 0, none⟩) p.seen.length c) (j : Nat) (v : Int) :
    PlAt B (w.setCell ⟨g, j, none⟩ (.int .i64 v)) b { p with seen := p.seen.set j v } ∧ Fr b.P w (w.setCell ⟨g, j, none⟩ (.int .i64 v)) := by
  have hgb : b.vs.ownBlock = some g := by rw [hvs]; rfl
  have F : Fr (fun k => k = g) w (w.setCell ⟨g, j, none⟩ (.int .i64 v)) := fr_cell rfl
  have F' : Fr b.P w (w.setCell ⟨g, j, none⟩ (.int .i64 v)) := F.mono fun k _ e => .inr (.inr (by have e : k = g := e; rw [e]; exact hgb))
  refine ⟨X.turnP (ve' := b.ve) (vs' := b.vs) rfl rfl rfl F' (X.blk.fr F (fun e => X.vs_p0 hgb e.symm)) (own_fr X.ends F fun k hk e => ?_) ?_ (fun k h => .inl (.inr h)), F'⟩
  · have e : k = g := e
    obtain ⟨c1, h1⟩ := row_type X.ends k hk
    obtain ⟨c2, h2⟩ := row_type X.seen g hgb
    rw [e, h2] at h1
    injection h1 with h1
    injection h1 with _ h1
    exact absurd h1 (by decide)
  · have h1 := X.seen
    rw [hvs] at h1 ⊢
    have h2 := own_set h1 j (.int .i64 v)
    rw [show (p.seen.set j v).length = p.seen.length from List.length_set .., show encN (p.seen.set j v) = (encN p.seen).set j (.int .i64 v) by unfold encN; rw [List.map_set]]
    exact h2
end
end Go.Proofs.Ytohnchkoldbpcaa

/- agent, the law: begin, send, ticks. -/
namespace Go.Proofs.Ytohnchkoldbpcaa
open Go Go.RowKit Go.Proofs

theorem ptr_res {w : World} : True := trivial
theorem begin_any (w : World) : Calls Try.prog 17 #[] w fun e w' => ∃ b, e = .returned (.pointer (some ⟨b.p0, 0, none⟩)) ∧ PlAt w.heap.size w' b beginS ∧ Fr No w w' := by
  go_enter Try.func17, Try.ntmps17
  go_wp2_with (first
    | (go_at_call 31; refine (newHub_01 _).mono ?_; rintro e w1 ⟨hp, hm, rfl, hH, hq1, hq2, hf1⟩)
    | (go_at_call 32; refine (newAgent_10 _).mono ?_; rintro e w2 ⟨aq, rfl, hA, hq3, hf2⟩)
    | (go_at_call 33; refine (new_any _).mono ?_; rintro e w3 ⟨np, nm, rfl, hq4, hq5, hN, hf3⟩))
  go_ret
  have hs1 := hf1.size
  have hs2 := hf2.size
  have hs3 := hf3.size
  have l1 := hH.lt
  have l2 := hA.lt
  have l3 := hN.lt
  have l4 := hN.ltm
  have rH : ∀ k, HubF hp hm (.slice none 0 0) [] k → w.heap.size ≤ k ∧ k < w1.heap.size := by
    intro k hk
    refine ⟨?_, l1 k hk⟩
    rcases hk with h | h | h | h
    · omega
    · omega
    · simp at h
    · cases h
  have rA : ∀ k, AgF aq (.slice none 0 0) [] k → w1.heap.size ≤ k ∧ k < w2.heap.size := by
    intro k hk
    refine ⟨?_, l2 k hk⟩
    rcases hk with h | h | h
    · omega
    · simp at h
    · cases h
  have rN : ∀ k, (k = np ∨ k = nm) → w2.heap.size ≤ k ∧ k < w3.heap.size := by
    rintro k (rfl | rfl)
    · exact ⟨hq4, l3⟩
    · exact ⟨hq5, l4⟩
  have rP : ∀ k, (k = w3.heap.size ∨ (Value.slice none 0 0).ownBlock = some k ∨ (Value.slice none 0 0).ownBlock = some k) → k = w3.heap.size := by
    rintro k (h | h | h)
    · exact h
    · cases h
    · cases h
  have hF : Fr No w3 (w3.alloc (Obj.cells #[.pointer (some ⟨hp, 0, none⟩), .pointer (some ⟨aq, 0, none⟩), .pointer (some ⟨np, 0, none⟩), .int .i64 100, .int .i64 0, .slice none 0 0, .slice none 0 0, .bool false] 54)) := (Fr.refl No w3).alloc _
  refine ⟨⟨w3.heap.size, hp, hm, .slice none 0 0, [], aq, .slice none 0 0, [], np, nm, .slice none 0 0, .slice none 0 0⟩, rfl, ⟨Blk.new w3 _ _, (hH.fr0 (hf2.trans hf3)).fr0 hF, (hA.fr0 hf3).fr0 hF, hN.fr0 hF, World.ownsRow_nil _ _ _ _, World.ownsRow_nil _ _ _ _, ?_, ?_, ?_, ?_, ?_, ?_, ?_⟩, ((hf1.trans hf2).trans hf3).alloc _⟩
  · intro k h1 h2; have := rH k h1; have := rA k h2; omega
  · intro k h1 h2; have := rH k h1; have := rN k h2; omega
  · intro k h1 h2; have := rH k h1; have := rP k h2; omega
  · intro k h1 h2; have := rA k h1; have := rN k h2; omega
  · intro k h1 h2; have := rA k h1; have := rP k h2; omega
  · intro k h1 h2; have := rN k h1; have := rP k h2; omega
  · rintro k (h | h | h | h)
    · exact (rH k h).1
    · have := rA k h; omega
    · have := rN k h; omega
    · have := rP k h; omega
/-! ### send -/
theorem sendsL_snoc (m : Msg) : ∀ (ms n : List Msg), sendsL (ms ++ [m]) n = sendL m (sendsL ms n)
  | [], _ => rfl
  | _ :: ms, _ => sendsL_snoc m ms _
def SnRel (B : Nat) (w : World) (b : PlB) (p : PlayS) (ms : List Msg) (g : Nat) (v4 : Value) (wr : World) : Prop :=
  ∃ i : Nat, i + g = ms.length ∧ v4 = .int .i64 i ∧ PlAt B wr b { p with n := sendsL (ms.take i) p.n } ∧ Fr (· = b.np) w wr
set_option maxRecDepth 100000 in
set_option maxHeartbeats 1000000 in
theorem lsend_any (B : Nat) (b : PlB) (p : PlayS) (A : Option Addr) (c : Nat) (ms : List Msg) (w : World) (X : PlAt B w b p) (hs : Sl w 26 8 A ms.length (ms.flatMap Msg.vals)) (hl : ms.length ≤ 1000000) :
    Calls Try.prog 35 #[.pointer (some ⟨b.p0, 0, none⟩), .slice A ms.length c] w fun e w' => (∃ v, e = .returned v) ∧ PlAt B w' b { p with n := sendsL ms p.n } ∧ Fr (· = b.np) w w' := by
  have HX := Lib.hid X
  have HS := Lib.hid hs
  have hl0 : (0 : Int) ≤ (ms.length : Int) := by omega
  have hl1 : (ms.length : Int) ≤ 1000000 := by omega
  clear X hs
  go_enter Try.func35, Try.ntmps35
  go_wp2
  go_loopg [4] ms.length (fun g v4 wr => SnRel B w b p ms g v4 wr)
  case atStart => exact ⟨0, by omega, rfl, by rw [List.take_zero]; exact HX.out.fr0 (by (repeat (first | exact Fr.refl _ _ | assumption | refine Fr.drew ?_ | refine Fr.drewL ?_ | refine Fr.alloc ?_ _))), by (repeat (first | exact Fr.refl _ _ | assumption | refine Fr.drew ?_ | refine Fr.drewL ?_ | refine Fr.alloc ?_ _))⟩
  case round =>
    obtain ⟨i, hgi, rfl, hX, hF⟩ := hrel
    have HX1 := Lib.hid hX
    have HF := Lib.hid hF
    have hi0 : (0 : Int) ≤ (i : Int) := by omega
    have c2 := hX.blk.cell 2
    have cl := hX.blk.lt
    simp only [List.getElem?_cons_zero, List.getElem?_cons_succ] at c2
    obtain ⟨A9, c9, hnb, _⟩ := hX.net
    have HS1 := Lib.hid (HS.out.fr hF (fun bb cur fr hb e => by
      have e : bb = b.np := e
      subst e
      obtain ⟨A8, c8, hnb, _⟩ := HX.out.net
      unfold Blk at hnb
      rw [hnb] at hb
      injection hb with hb
      injection hb with _ hb
      exact absurd hb (by decide)))
    clear hX hF hnb
    by_cases hi : i < ms.length
    · have hi1 : (i : Int) < (ms.length : Int) := by omega
      obtain ⟨x, hx⟩ : ∃ x, ms[i]? = some x := ⟨_, List.getElem?_eq_getElem hi⟩
      obtain ⟨g1, o1, rfl, hg1, ⟨m0, m1, m2, m3, m4, m5, m6, m7⟩⟩ := msg_cells HS1.out hx
      have HTK := Lib.hid (show ms.take (i + 1) = ms.take i ++ [x] by rw [List.take_add_one, hx]; rfl)
      clear hx
      go_wp2
      refine wp_region_o [(0, 0), (1, 0), (2, 0), (4, 0), (5, 0), (6, 0), (3, 1), (7, 1), (8, 3)] (by kernel_rfl) (by kernel_rfl) ?_
      repeat (first
        | (apply wpO_pure rfl rfl; (focus (intro w'; go_simp; (try rfl); done)); try simp only [Act.put, List.setIfInBounds_toArray, List.set_cons_zero, List.set_cons_succ])
        | (apply wpO_read rfl rfl; (focus (intro w' hf' hs'; (try simp only [World.size_drew, World.cell?_drew, World.size_alloc, World.size_setCell] at hs'); go_simp; (try rfl); done)); try simp only [Act.put, List.setIfInBounds_toArray, List.set_cons_zero, List.set_cons_succ])
        | (apply wpO_skip (by decide) rfl rfl; try simp only [Act.put, List.setIfInBounds_toArray, List.set_cons_zero, List.set_cons_succ]))
      refine wpO_loud rfl fun K hK => ?_
      go_simp
      refine (send_any b.np b.nm (sendsL (ms.take i) p.n) [] x _ (HX1.out.net.fr0 (by (repeat (first | exact Fr.refl _ _ | assumption | refine Fr.drew ?_ | refine Fr.drewL ?_ | refine Fr.alloc ?_ _))))).mono ?_
      rintro e w3 ⟨rfl, hN3, hf3⟩
      refine hK _ _ ?_
      clear hK K
      repeat (first
        | (apply wpO_pure rfl rfl; (focus (intro w'; go_simp; (try rfl); done)); try simp only [Act.put, List.setIfInBounds_toArray, List.set_cons_zero, List.set_cons_succ])
        | (apply wpO_read rfl rfl; (focus (intro w' hf' hs'; (try simp only [World.size_drew, World.cell?_drew, World.size_alloc, World.size_setCell] at hs'); go_simp; (try rfl); done)); try simp only [Act.put, List.setIfInBounds_toArray, List.set_cons_zero, List.set_cons_succ])
        | (apply wpO_skip (by decide) rfl rfl; try simp only [Act.put, List.setIfInBounds_toArray, List.set_cons_zero, List.set_cons_succ]))
      refine wpO_nil ?_
      go_wp2
      go_roundg (ms.length - (i + 1))
      case measure => omega
      case rel => exact ⟨i + 1, by omega, by go_num, by rw [HTK.out, sendsL_snoc]; exact ((HX1.out.fr0 ((Fr.refl No _).drew)).turnN hN3 hf3), (HF.out.drew).trans hf3⟩
    · obtain rfl : i = ms.length := by omega
      rw [List.take_length] at HX1
      go_wp2
      exact bodyPost_end (v := .tuple #[]) (by simp [results, Try.results35, go_sem]) rfl ⟨⟨_, rfl⟩, HX1.out, HF.out⟩
/-! ### ticks -/
theorem htick_any (p m : Nat) (u : Value) (bs : List Nat) (h : HubS) (w : World) (H : HubAt w p m u bs h) (clock : Int) (hsent : ∀ (i : Nat) (r : Req), h.l[i]? = some r → 0 ≤ r.sent ∧ r.sent ≤ 5258966399) (hmx : lastR h.l ≤ 2147483647) (hmn : 0 ≤ lastR h.l) :
    Calls Try.prog 10 #[.pointer (some ⟨p, 0, none⟩), .int .i64 clock] w fun e w' => ∃ A c, e = .returned (.slice A (h.tick clock).2.length c) ∧ Sl w' 26 8 A (h.tick clock).2.length ((h.tick clock).2.flatMap Msg.vals) ∧ HubAt w' p m u bs (h.tick clock).1 ∧ Fr (HubF p m u bs) w w' := by
  cases hc : isClockB clock with
  | true =>
    refine (htick_ok p m u bs h w H clock hc hsent hmx hmn).mono ?_
    rintro e w' ⟨v, rfl, ho, hH, hf⟩
    obtain ⟨A, c, rfl, _⟩ := own_shape ho
    exact ⟨A, c, rfl, Sl.of_own ho, hH, hf⟩
  | false =>
    have e : h.tick clock = (h, []) := by unfold HubS.tick; rw [hc]; rfl
    rw [e]
    refine (htick_not p m u bs h w H clock hc).mono ?_
    rintro e w' ⟨rfl, hf⟩
    exact ⟨none, 0, rfl, Sl.nil _ _ _ _, H.fr0 hf, hf.any _⟩
theorem agtick_any (q : Nat) (u : Value) (bs : List Nat) (a : AgS) (w : World) (H : AgAt w q u bs a) (clock : Int) (hsent : ∀ (i : Nat) (x : WorkS), a.l[i]? = some x → 0 ≤ x.sent ∧ x.sent ≤ 5258966399) :
    Calls Try.prog 11 #[.pointer (some ⟨q, 0, none⟩), .int .i64 clock] w fun e w' => ∃ A c, e = .returned (.slice A (a.tick clock).2.length c) ∧ Sl w' 26 8 A (a.tick clock).2.length ((a.tick clock).2.flatMap Msg.vals) ∧ AgAt w' q u bs (a.tick clock).1 ∧ Fr (AgF q u bs) w w' := by
  cases hc : isClockB clock with
  | true =>
    refine (agtick_ok q u bs a w H clock hc hsent).mono ?_
    rintro e w' ⟨v, rfl, ho, hH, hf⟩
    obtain ⟨A, c, rfl, _⟩ := own_shape ho
    exact ⟨A, c, rfl, Sl.of_own ho, hH, hf⟩
  | false =>
    have e : a.tick clock = (a, []) := by unfold AgS.tick; rw [hc]; rfl
    rw [e]
    refine (agtick_not q u bs a w H clock hc).mono ?_
    rintro e w' ⟨rfl, hf⟩
    exact ⟨none, 0, rfl, Sl.nil _ _ _ _, H.fr0 hf, hf.any _⟩
/-- the numbers of a play, as far as memory asks -/
structure NumB (K : Int) (R : Nat) (p : PlayS) : Prop where
  c0 : 0 ≤ p.clock
  c1 : p.clock ≤ K
  hs : ∀ (i : Nat) (r : Req), p.h.l[i]? = some r → 0 ≤ r.sent ∧ r.sent ≤ p.clock
  ag : ∀ (i : Nat) (x : WorkS), p.a.l[i]? = some x → 0 ≤ x.sent ∧ x.sent ≤ p.clock
  net : p.n.length ≤ 64
  hl : p.h.l.length ≤ R
theorem tkM_le (h : HubS) (c : Int) : (h.tick c).2.length ≤ h.l.length := by
  unfold HubS.tick
  split
  · simp only [List.length_map]
    exact Nat.le_trans (List.length_filter_le _ _) (by rw [List.length_drop]; omega)
  · exact Nat.zero_le _
theorem agtM_le (a : AgS) (c : Int) : (a.tick c).2.length ≤ a.l.length := by
  unfold AgS.tick
  split
  · simp only [List.length_map]
    exact List.length_filter_le _ _
  · exact Nat.zero_le _
set_option maxRecDepth 100000 in
set_option maxHeartbeats 1000000 in
theorem ltick_any (B : Nat) (b : PlB) (p : PlayS) (w : World) (X : PlAt B w b p) (I : Inv p) {K : Int} {R : Nat} (M : NumB K R p) (hK : K ≤ 1000000) (hR : R ≤ 1000000) :
    Calls Try.prog 21 #[.pointer (some ⟨b.p0, 0, none⟩)] w fun e w' => (∃ v, e = .returned v) ∧ PlAt B w' b (tickS p) ∧ Fr (fun k => b.H k ∨ b.A k ∨ b.N k ∨ b.P k) w w' := by
  obtain ⟨c, hc⟩ : ∃ c, c = p.clock + 1 := ⟨_, rfl⟩
  have HT : Hid (tickS p = { p with clock := c, h := (p.h.tick c).1, n := sendsL (p.a.tick c).2 (sendsL (p.h.tick c).2 p.n), a := (p.a.tick c).1 }) := Lib.hid (by rw [hc]; rfl)
  have c3 := X.blk.cell 3
  have x0 := X.blk.cell 0
  have cl := X.blk.lt
  have cz := X.blk.frozens
  simp only [List.getElem?_cons_zero, List.getElem?_cons_succ] at c3 x0
  have hcw : IntKind.i64.wrap (p.clock + 1) = c := by rw [IntWalk.i64_in _ (by have := M.c0; have := M.c1; omega)]; exact hc.symm
  have HX1 : Hid (PlAt B (w.setCell ⟨b.p0, 3, none⟩ (.int .i64 c)) b { p with clock := c }) := Lib.hid (X.setOne rfl rfl rfl rfl rfl rfl)
  have HF1 : Hid (Fr (fun k => b.H k ∨ b.A k ∨ b.N k ∨ b.P k) w (w.setCell ⟨b.p0, 3, none⟩ (.int .i64 c))) := Lib.hid ((frP w).mono fun k _ h => .inr (.inr (.inr h)))
  have HI := Lib.hid I
  have HS1 := Lib.hid (show ∀ (i : Nat) (r : Req), p.h.l[i]? = some r → 0 ≤ r.sent ∧ r.sent ≤ 5258966399 from fun i r hr => by have := M.hs i r hr; have := M.c1; omega)
  have HS2 := Lib.hid (show ∀ (i : Nat) (x : WorkS), p.a.l[i]? = some x → 0 ≤ x.sent ∧ x.sent ≤ 5258966399 from fun i r hr => by have := M.ag i r hr; have := M.c1; omega)
  have HLR := Lib.hid (show lastR p.h.l ≤ 2147483647 ∧ 0 ≤ lastR p.h.l by rw [last_eq I.h]; have := M.hl; omega)
  have HN1 := Lib.hid (show (p.h.tick c).2.length ≤ 1000000 from by have := tkM_le p.h c; have := M.hl; omega)
  have HN2 := Lib.hid (show (p.a.tick c).2.length ≤ 1000000 from by have := agtM_le p.a c; have := (inv_asks I).2.1; omega)
  clear X I M hc
  go_enter Try.func21, Try.ntmps21
  go_wp2
  refine wp_region_o [(0, 0), (1, 0), (2, 0), (3, 0), (5, 0), (6, 0), (7, 0), (4, 1), (8, 1), (9, 3), (10, 3)] (by kernel_rfl) (by kernel_rfl) ?_
  repeat (first
    | (apply wpO_pure rfl rfl; (focus (intro w'; go_simp; (try rfl); done)); try simp only [Act.put, List.setIfInBounds_toArray, List.set_cons_zero, List.set_cons_succ])
    | (apply wpO_read rfl rfl; (focus (intro w' hf' hs'; (try simp only [World.size_drew, World.cell?_drew, World.size_alloc, World.size_setCell] at hs'); go_simp; (try rfl); done)); try simp only [Act.put, List.setIfInBounds_toArray, List.set_cons_zero, List.set_cons_succ])
    | (apply wpO_skip (by decide) rfl rfl; try simp only [Act.put, List.setIfInBounds_toArray, List.set_cons_zero, List.set_cons_succ]))
  refine wpO_loud rfl fun K hK => ?_
  go_simp
  refine (htick_any b.hp b.hm b.hu b.hbs p.h _ (HX1.out.fr0 (by (repeat (first | exact Fr.refl _ _ | assumption | refine Fr.drew ?_ | refine Fr.drewL ?_ | refine Fr.alloc ?_ _)))).hub c HS1.out HLR.out.1 HLR.out.2).mono ?_
  rintro e w3 ⟨A3, k3, rfl, hS3, hH3, hf3⟩
  refine hK _ _ ?_
  clear hK K
  have HX3 : Hid (PlAt B w3 b { p with clock := c, h := (p.h.tick c).1 }) := Lib.hid ((HX1.out.fr0 (by (repeat (first | exact Fr.refl _ _ | assumption | refine Fr.drew ?_ | refine Fr.drewL ?_ | refine Fr.alloc ?_ _)))).turnH hH3 hf3 fun k h => .inl h)
  have HF3 := Lib.hid (HF1.out.drew.trans (hf3.mono fun k _ h => .inl h))
  clear hf3 hH3
  refine wpO_loud rfl fun K hK => ?_
  go_simp
  refine (lsend_any B b _ A3 k3 (p.h.tick c).2 _ HX3.out hS3 HN1.out).mono ?_
  rintro e w4 ⟨⟨v4, rfl⟩, hX4, hf4⟩
  refine hK _ _ ?_
  clear hK K
  have HX4 := Lib.hid hX4
  have HF4 := Lib.hid (HF3.out.trans (hf4.mono fun k _ h => .inr (.inr (.inl (.inl h)))))
  have d1 := hX4.blk.cell 1
  have d3 := hX4.blk.cell 3
  have dl := hX4.blk.lt
  simp only [List.getElem?_cons_zero, List.getElem?_cons_succ] at d1 d3
  clear hX4 hf4 c3 x0 cl cz HX1 HF1 HX3 HF3
  refine wpO_nil ?_
  go_wp2
  refine wp_region_o [(0, 0), (1, 0), (2, 0), (3, 0), (5, 0), (6, 0), (7, 0), (4, 1), (8, 1), (9, 3), (10, 3)] (by kernel_rfl) (by kernel_rfl) ?_
  repeat (first
    | (apply wpO_pure rfl rfl; (focus (intro w'; go_simp; (try rfl); done)); try simp only [Act.put, List.setIfInBounds_toArray, List.set_cons_zero, List.set_cons_succ])
    | (apply wpO_read rfl rfl; (focus (intro w' hf' hs'; (try simp only [World.size_drew, World.cell?_drew, World.size_alloc, World.size_setCell] at hs'); go_simp; (try rfl); done)); try simp only [Act.put, List.setIfInBounds_toArray, List.set_cons_zero, List.set_cons_succ])
    | (apply wpO_skip (by decide) rfl rfl; try simp only [Act.put, List.setIfInBounds_toArray, List.set_cons_zero, List.set_cons_succ]))
  refine wpO_loud rfl fun K hK => ?_
  go_simp
  refine (agtick_any b.aq b.au b.abs p.a _ (HX4.out.fr0 (by (repeat (first | exact Fr.refl _ _ | assumption | refine Fr.drew ?_ | refine Fr.drewL ?_ | refine Fr.alloc ?_ _)))).ag c HS2.out).mono ?_
  rintro e w5 ⟨A5, c5, rfl, hS5, hA5, hf5⟩
  refine hK _ _ ?_
  clear hK K
  have HX5 := Lib.hid ((HX4.out.fr0 (by (repeat (first | exact Fr.refl _ _ | assumption | refine Fr.drew ?_ | refine Fr.drewL ?_ | refine Fr.alloc ?_ _)))).turnA hA5 hf5 fun k h => .inl h)
  have HF5 := Lib.hid (HF4.out.drew.trans (hf5.mono fun k _ h => .inr (.inl h)))
  clear hf5 hA5
  refine wpO_loud rfl fun K hK => ?_
  go_simp
  refine (lsend_any B b _ A5 c5 (p.a.tick c).2 _ HX5.out hS5 HN2.out).mono ?_
  rintro e w6 ⟨⟨v6, rfl⟩, hX6, hf6⟩
  refine hK _ _ ?_
  clear hK K
  refine wpO_nil ?_
  go_wp2
  exact bodyPost_end (v := .tuple #[]) (by simp [results, Try.results21, go_sem]) rfl ⟨⟨_, rfl⟩, by rw [HT.out]; exact hX6, HF5.out.trans (hf6.mono fun k _ h => .inr (.inr (.inl (.inl h))))⟩
end Go.Proofs.Ytohnchkoldbpcaa

/- agent, the law: a message comes to the agent. -/
namespace Go.Proofs.Ytohnchkoldbpcaa
open Go Go.RowKit Go.Proofs

theorem takeR_nil {l : List Msg} {k : Nat} {m : Msg} (hm : l[k]? = some m) : takeR l [] (k : Int) = (m, 0, l.eraseIdx k) := by
  have hk := (List.getElem?_eq_some_iff.1 hm).1
  unfold takeR
  rw [if_pos (by unfold inL; simp; omega), Int.toNat_natCast, hm]
  simp only [cutV, mget]
  rfl
theorem start_begun {a : AgS} {m : Msg} {c : Int} (h : a.begun < (a.start m c).1.begun) : m.mins ≤ 10080 := by
  by_cases hb : (isRunB m.n && decide (m.mins ≤ 10080)) = true
  · simp only [Bool.and_eq_true, decide_eq_true_eq] at hb
    exact hb.2
  · exfalso
    unfold AgS.start at h
    rw [if_neg hb] at h
    simp at h
theorem take_begun {a : AgS} {m : Msg} {c : Int} (h : a.begun < (a.take m c).1.begun) : 0 ≤ m.mins ∧ m.mins ≤ 10080 := by
  unfold AgS.take at h
  by_cases hh : heardB a.me a.other [1, 4] m = true
  · refine ⟨heard_mins hh, ?_⟩
    rw [if_pos hh] at h
    by_cases hc : isClockB c = true
    · rw [if_pos hc] at h
      by_cases hk : m.kind = 1
      · rw [if_pos hk] at h
        exact start_begun h
      · rw [if_neg hk] at h
        split at h <;> simp at h
    · rw [if_neg hc] at h
      simp at h
  · rw [if_neg hh] at h
    simp at h
theorem agtake_len {a ta : AgS} {m : Msg} {c : Int} {tm : List Msg} {te : Int} (h : a.take m c = (ta, tm, te)) : tm.length ≤ 1000000 := by
  have key : (a.take m c).2.1.length ≤ 1 := by
    unfold AgS.take
    split
    · split
      · split
        · unfold AgS.start
          split
          · simp only
            split
            · simp
            · split
              · split <;> simp
              · split <;> simp
          · simp
        · split <;> simp
      · simp
    · simp
  rw [h] at key
  simp only at key
  omega
set_option maxRecDepth 100000 in
set_option maxHeartbeats 2000000 in
theorem comeA_any (B : Nat) (b : PlB) (p : PlayS) (w : World) (X : PlAt B w b p) (I : Inv p) {K : Int} {R : Nat} (M : NumB K R p) (hK : K ≤ 1000000) (hR : R ≤ 1000000) (k : Nat) (m : Msg) (hm : p.n[k]? = some m) (ht : m.to_ = 1) :
    Calls Try.prog 20 #[.pointer (some ⟨b.p0, 0, none⟩), .int .i64 (k : Int)] w fun e w' => ∃ b', (∃ v, e = .returned v) ∧ b'.p0 = b.p0 ∧ PlAt B w' b' (comeS p k) ∧ Fr (fun k => b.H k ∨ b.A k ∨ b.N k ∨ b.P k) w w' := by
  have HTR := Lib.hid (takeR_nil hm)
  have HSO := Lib.hid (inv_asks I)
  have HMO := Lib.hid (I.msg m (List.mem_of_getElem? hm))
  have HX := Lib.hid X
  have HI := Lib.hid I
  have HM := Lib.hid M
  have HTO := Lib.hid ht
  have c2 := X.blk.cell 2
  have cl := X.blk.lt
  simp only [List.getElem?_cons_zero, List.getElem?_cons_succ] at c2
  have HBG := Lib.hid (show p.a.begun ≤ 1000000 by have := HSO.out.2.2.1; have := I.h.run; have := M.hl; omega)
  obtain ⟨ta, tm, te, hT⟩ : ∃ ta tm te, p.a.take m p.clock = (ta, tm, te) := ⟨_, _, _, rfl⟩
  have HTA := Lib.hid hT
  have HTL := Lib.hid (show tm.length ≤ 1000000 from agtake_len hT)
  clear hT
  have HCS := Lib.hid (show comeS p k = comeA p m (p.n.eraseIdx k) by unfold comeS; rw [hm]; simp only; rw [if_pos ht])
  have hto : (m.to_ == 1) = true := by rw [ht]; rfl
  clear X I M hm ht
  go_enter Try.func20, Try.ntmps20
  go_wp2_with (first
    | (go_at_call 38
       refine (take_any b.np b.nm p.n [] (k : Int) _ HX.out.net (by have := HM.out.net; omega)).mono ?_
       rintro e w1 ⟨he, hN1, hf1⟩
       rw [HTR.out] at he hN1
       obtain rfl := he
       have HX1 := Lib.hid (HX.out.turnN hN1 hf1)
       have HF1 : Hid (Fr (fun k => b.H k ∨ b.A k ∨ b.N k ∨ b.P k) w w1) := Lib.hid (hf1.mono fun k _ h => .inr (.inr (.inl (.inl h))))
       have x1 := HX1.out.blk.cell 1
       have xl := HX1.out.blk.lt
       simp only [List.getElem?_cons_zero, List.getElem?_cons_succ] at x1
       have HX2 := Lib.hid (HX1.out.fr0 ((Fr.refl No w1).alloc (Obj.cells m.vals.toArray 26)))
       have HMB2 := Lib.hid (Blk.new w1 26 m.vals)
       have HF2 := Lib.hid (HF1.out.alloc (Obj.cells m.vals.toArray 26))
       clear hN1 hf1)
    | (go_at_call 15
       refine (begun_any b.aq b.au b.abs p.a _ HX2.out.ag).mono ?_
       rintro e w3 ⟨rfl, hf3⟩
       have HX3 := Lib.hid (HX2.out.fr0 hf3)
       have HMB3 := Lib.hid (HMB2.out.fr hf3 (fun h => h))
       have HF3 := Lib.hid (HF2.out.trans (hf3.any _))
       have y1 := HX3.out.blk.cell 1
       have y3 := HX3.out.blk.cell 3
       have yl := HX3.out.blk.lt
       simp only [List.getElem?_cons_zero, List.getElem?_cons_succ] at y1 y3
       obtain ⟨q0, q1, q2, q3, q4, q5, q6, q7⟩ := HMB3.out.cells8
       have q8 := HMB3.out.lt
       have q9 := HMB3.out.frozens
       clear hf3))
  refine wp_region_o [(0, 0), (1, 0), (2, 0), (5, 0), (6, 0), (7, 0), (3, 1), (4, 1), (8, 1), (9, 3), (10, 0), (11, 0), (12, 0), (13, 0), (14, 0)] (by kernel_rfl) (by kernel_rfl) ?_
  repeat (first
    | (apply wpO_pure rfl rfl; (focus (intro w'; go_simp; (try rfl); done)); try simp only [Act.put, List.setIfInBounds_toArray, List.set_cons_zero, List.set_cons_succ])
    | (apply wpO_read rfl rfl; (focus (intro w' hf' hs'; (try simp only [World.size_drew, World.cell?_drew, World.size_alloc, World.size_setCell] at hs'); go_simp; (try rfl); done)); try simp only [Act.put, List.setIfInBounds_toArray, List.set_cons_zero, List.set_cons_succ])
    | (apply wpO_skip (by decide) rfl rfl; try simp only [Act.put, List.setIfInBounds_toArray, List.set_cons_zero, List.set_cons_succ]))
  refine wpO_loud rfl fun K hK => ?_
  go_simp
  refine (agtake_any b.aq b.au b.abs p.a m p.clock _ (HX3.out.fr0 (by (repeat (first | exact Fr.refl _ _ | assumption | refine Fr.drew ?_ | refine Fr.drewL ?_ | refine Fr.alloc ?_ _)))).ag HI.out.a.sorted (by have := HSO.out.2.1; omega) HBG.out).mono ?_
  rintro e w4 ⟨u4, bs4, ⟨A4, k4, rfl, hS4⟩, hA4, hf4, hn4⟩
  refine hK _ _ ?_
  clear hK K
  rw [HTA.out] at hS4 hA4
  rw [HTA.out]
  have hf4' : Fr b.A w3 w4 := Fr.trans (by (repeat (first | exact Fr.refl _ _ | assumption | refine Fr.drew ?_ | refine Fr.drewL ?_ | refine Fr.alloc ?_ _))) hf4
  have hgb : Blk w4 w1.heap.size 26 m.vals := HMB3.out.fr hf4' (fun e => HX3.out.ag.no_msg _ _ _ HMB3.out e)
  have HMB4 := Lib.hid hgb
  have HX4 := Lib.hid (HX3.out.turnA hA4 hf4' hn4)
  have HF4 := Lib.hid (HF3.out.trans (hf4'.mono fun k _ h => .inr (.inl h)))
  have HS4 := Lib.hid hS4
  clear hf4 hf4' hn4 hgb hA4 hS4 q0 q1 q2 q3 q4 q5 q6 q7 q8 q9 y1 y3 yl x1 xl
  repeat (first
    | (apply wpO_pure rfl rfl; (focus (intro w'; go_simp; (try rfl); done)); try simp only [Act.put, List.setIfInBounds_toArray, List.set_cons_zero, List.set_cons_succ])
    | (apply wpO_read rfl rfl; (focus (intro w' hf' hs'; (try simp only [World.size_drew, World.cell?_drew, World.size_alloc, World.size_setCell] at hs'); go_simp; (try rfl); done)); try simp only [Act.put, List.setIfInBounds_toArray, List.set_cons_zero, List.set_cons_succ])
    | (apply wpO_skip (by decide) rfl rfl; try simp only [Act.put, List.setIfInBounds_toArray, List.set_cons_zero, List.set_cons_succ]))
  have y1 := HX4.out.blk.cell 1
  have y5 := HX4.out.blk.cell 5
  have yl := HX4.out.blk.lt
  simp only [List.getElem?_cons_zero, List.getElem?_cons_succ] at y1 y5
  obtain ⟨q0, q1, q2, q3, q4, q5, q6, q7⟩ := HMB4.out.cells8
  have q8 := HMB4.out.lt
  have q9 := HMB4.out.frozens
  refine wpO_nil ?_
  go_wp2
  by_cases hgr : p.a.begun < ta.begun
  · have HG := Lib.hid hgr
    have hmo := HMO.out
    obtain ⟨j, hj⟩ : ∃ j : Nat, m.n = (j : Int) + 1 := ⟨(m.n - 1).toNat, by have := hmo.1; omega⟩
    have hjl : j < p.ends.length := by have := hmo.2.1; rw [HI.out.h.ends]; omega
    have HJ := Lib.hid hj
    obtain ⟨ee, hee⟩ : ∃ ee, p.ends[j]? = some ee := ⟨_, List.getElem?_eq_getElem hjl⟩
    have HEE := Lib.hid hee
    have HBM := Lib.hid (take_begun (a := p.a) (m := m) (c := p.clock) (by rw [HTA.out]; exact hgr))
    have hn1 : decide (1 ≤ m.n) = true := by simp only [decide_eq_true_eq]; omega
    have hn2 : decide (m.n ≤ (p.ends.length : Int)) = true := by simp only [decide_eq_true_eq]; omega
    have hn1' : 1 ≤ m.n := by omega
    have hn2' : m.n ≤ (p.ends.length : Int) := by omega
    have hnw : IntKind.i64.wrap (m.n - 1) = (j : Int) := by rw [IntWalk.i64_in _ (by have := hmo.2.1; have := HM.out.hl; omega)]; omega
    have hmw : IntKind.i64.wrap (p.clock + m.mins) = p.clock + m.mins := IntWalk.i64_in _ (by have := HM.out.c0; have := HM.out.c1; have := HBM.out; omega)
    have hj0 : (0 : Int) ≤ (j : Int) := by omega
    have hj1 : (j : Int) < (p.ends.length : Int) := by omega
    obtain ⟨Av, cv, hve, _⟩ := own_shape HX4.out.ends
    have hve : b.ve = .slice Av p.ends.length cv := hve
    have HE4 := HX4.out.ends
    have HE4 : w4.ownsRow B 2 1 (.slice Av p.ends.length cv) p.ends.length (encN p.ends) := by rw [← hve]; exact HE4
    obtain ⟨ga, oa, hAv, _⟩ := (Sl.of_own HE4).cells (by omega)
    subst hAv
    obtain ⟨gv, curv, hgv, hBv, hcv1, hcv2, hcv3, hcv4, _⟩ := own_blk HE4
    injection hgv with hgv1 hgv2
    subst hgv1 hgv2
    have hgp : ¬ ga = b.p0 := HX4.out.ve_p0 (by show b.ve.ownBlock = _; rw [hve]; rfl)
    have hgp' : ¬ b.p0 = ga := fun e => hgp e.symm
    have HVE := Lib.hid hve
    have HBV := Lib.hid hBv
    have HCJ := Lib.hid (show curv[j]? = some (.int .i64 ee) by
      have h1 : (curv.take p.ends.length)[j]? = (encN p.ends)[j]? := by rw [hcv4]
      rw [List.getElem?_take_of_lt hjl] at h1
      rw [h1]
      simp [encN, hee])
    rw [show PlB.ve { b with au := u4, abs := bs4 } = b.ve from rfl, hve] at y5
    clear hj hee hmo hve HE4 hBv hcv1 hcv2 hcv3 hcv4 hjl
    refine wp_region_o [(0, 0), (1, 0), (2, 0), (5, 0), (3, 1), (4, 2), (6, 0), (7, 0), (8, 0), (9, 1), (10, 0), (11, 0), (12, 0), (13, 0), (15, 0), (16, 0), (17, 0), (14, 1), (18, 1), (19, 1), (20, 0), (21, 0)] (by kernel_rfl) (by kernel_rfl) ?_
    repeat (first
      | (apply wpO_pure rfl rfl; (focus (intro w'; go_simp; (try rfl); done)); try simp only [Act.put, List.setIfInBounds_toArray, List.set_cons_zero, List.set_cons_succ])
      | (apply wpO_read rfl rfl; (focus (intro w' hf' hs'; (try simp only [World.size_drew, World.cell?_drew, World.size_alloc, World.size_setCell] at hs'); go_simp; (try rfl); done)); try simp only [Act.put, List.setIfInBounds_toArray, List.set_cons_zero, List.set_cons_succ])
      | (apply wpO_skip (by decide) rfl rfl; try simp only [Act.put, List.setIfInBounds_toArray, List.set_cons_zero, List.set_cons_succ]))
    refine wpO_loudE rfl fun K hK => ?_
    go_simp
    refine (begun_any b.aq u4 bs4 ta _ (HX4.out.fr0 (by (repeat (first | exact Fr.refl _ _ | assumption | refine Fr.drew ?_ | refine Fr.drewL ?_ | refine Fr.alloc ?_ _)))).ag).mono ?_
    rintro e w5 ⟨rfl, hf5⟩
    refine hK _ _ ⟨hf5, ?_⟩
    clear hK K
    have HX5 := Lib.hid ((HX4.out.fr0 ((Fr.refl No w4).drew)).fr0 hf5)
    have HF5 := Lib.hid ((HF4.out.drew).trans (hf5.any _))
    have HS5 := Lib.hid ((HS4.out.drew).fr0 hf5)
    have HMB5 := Lib.hid ((HMB4.out.drew).fr hf5 (fun h => h))
    have HBV5 := Lib.hid ((HBV.out.drew).fr hf5 (fun h => h))
    clear hf5 q0 q1 q2 q3 q4 q5 q6 q7 q8 q9
    have z1 := HX5.out.blk.cell 1
    have z3 := HX5.out.blk.cell 3
    have z5 := HX5.out.blk.cell 5
    have z7 := HX5.out.blk.cell 7
    have zl := HX5.out.blk.lt
    have zz := HX5.out.blk.frozens
    have zv := HBV5.out.cell j
    have zvl := HBV5.out.lt
    have zvz := HBV5.out.frozens
    rw [HCJ.out] at zv
    simp only [List.getElem?_cons_zero, List.getElem?_cons_succ] at z1 z3 z5 z7
    rw [show PlB.ve { b with au := u4, abs := bs4 } = b.ve from rfl, HVE.out] at z5
    rw [show PlayS.bad { p with n := p.n.eraseIdx k, a := ta } = p.bad from rfl, HSO.out.1] at z7
    obtain ⟨q0, q1, q2, q3, q4, q5, q6, q7⟩ := HMB5.out.cells8
    have q8 := HMB5.out.lt
    have q9 := HMB5.out.frozens
    have ngm : ¬ w1.heap.size = b.p0 := by have := HX1.out.blk.lt; omega
    have ngm' : ¬ b.p0 = w1.heap.size := fun e => ngm e.symm
    have nga : ¬ w1.heap.size = ga := fun e => HMB5.out.ne_ (by rw [e]; exact HBV5.out) (by decide) rfl
    have nga' : ¬ ga = w1.heap.size := fun e => nga e.symm
    repeat (first
      | (apply wpO_pure rfl rfl; (focus (intro w'; go_simp; (try rfl); done)); try simp only [Act.put, List.setIfInBounds_toArray, List.set_cons_zero, List.set_cons_succ])
      | (apply wpO_read rfl rfl; (focus (intro w' hf' hs'; (try simp only [World.size_drew, World.cell?_drew, World.size_alloc, World.size_setCell] at hs'); go_simp; (try rfl); done)); try simp only [Act.put, List.setIfInBounds_toArray, List.set_cons_zero, List.set_cons_succ])
      | (apply wpO_skip (by decide) rfl rfl; try simp only [Act.put, List.setIfInBounds_toArray, List.set_cons_zero, List.set_cons_succ]))
    refine wpO_nil ?_
    go_wp2
    refine wp_region_o [(0, 0), (1, 0), (2, 0), (3, 0), (4, 1), (5, 0), (6, 0), (7, 0), (8, 0), (10, 0), (9, 1), (11, 1), (12, 0), (13, 0), (14, 1), (15, 0), (16, 0), (17, 0), (18, 0), (19, 3)] (by kernel_rfl) (by kernel_rfl) ?_
    repeat (first
      | (apply wpO_pure rfl rfl; (focus (intro w'; go_simp; (try rfl); done)); try simp only [Act.put, List.setIfInBounds_toArray, List.set_cons_zero, List.set_cons_succ])
      | (apply wpO_read rfl rfl; (focus (intro w' hf' hs'; (try simp only [World.size_drew, World.cell?_drew, World.size_alloc, World.size_setCell] at hs'); go_simp; (try rfl); done)); try simp only [Act.put, List.setIfInBounds_toArray, List.set_cons_zero, List.set_cons_succ])
      | (apply wpO_skip (by decide) rfl rfl; try simp only [Act.put, List.setIfInBounds_toArray, List.set_cons_zero, List.set_cons_succ]))
    refine wpO_loud rfl fun K hK => ?_
    go_simp
    refine hK _ _ ?_
    clear hK K
    repeat (first
      | (apply wpO_pure rfl rfl; (focus (intro w'; go_simp; (try rfl); done)); try simp only [Act.put, List.setIfInBounds_toArray, List.set_cons_zero, List.set_cons_succ])
      | (apply wpO_read rfl rfl; (focus (intro w' hf' hs'; (try simp only [World.size_drew, World.cell?_drew, World.size_alloc, World.size_setCell] at hs'); go_simp; (try rfl); done)); try simp only [Act.put, List.setIfInBounds_toArray, List.set_cons_zero, List.set_cons_succ])
      | (apply wpO_skip (by decide) rfl rfl; try simp only [Act.put, List.setIfInBounds_toArray, List.set_cons_zero, List.set_cons_succ]))
    refine wpO_nil ?_
    go_wp2
    refine wp_region_o [(0, 0), (1, 0), (2, 0), (4, 0), (7, 0), (8, 0), (9, 0), (11, 0), (3, 1), (5, 1), (6, 0), (10, 1), (12, 1), (13, 0), (14, 0), (15, 3)] (by kernel_rfl) (by kernel_rfl) ?_
    repeat (first
      | (apply wpO_pure rfl rfl; (focus (intro w'; go_simp; (try rfl); done)); try simp only [Act.put, List.setIfInBounds_toArray, List.set_cons_zero, List.set_cons_succ])
      | (apply wpO_read rfl rfl; (focus (intro w' hf' hs'; (try simp only [World.size_drew, World.cell?_drew, World.size_alloc, World.size_setCell] at hs'); go_simp; (try rfl); done)); try simp only [Act.put, List.setIfInBounds_toArray, List.set_cons_zero, List.set_cons_succ])
      | (apply wpO_skip (by decide) rfl rfl; try simp only [Act.put, List.setIfInBounds_toArray, List.set_cons_zero, List.set_cons_succ]))
    refine wpO_loud rfl fun K hK => ?_
    go_simp
    refine hK _ _ ?_
    clear hK K
    repeat (first
      | (apply wpO_pure rfl rfl; (focus (intro w'; go_simp; (try rfl); done)); try simp only [Act.put, List.setIfInBounds_toArray, List.set_cons_zero, List.set_cons_succ])
      | (apply wpO_read rfl rfl; (focus (intro w' hf' hs'; (try simp only [World.size_drew, World.cell?_drew, World.size_alloc, World.size_setCell] at hs'); go_simp; (try rfl); done)); try simp only [Act.put, List.setIfInBounds_toArray, List.set_cons_zero, List.set_cons_succ])
      | (apply wpO_skip (by decide) rfl rfl; try simp only [Act.put, List.setIfInBounds_toArray, List.set_cons_zero, List.set_cons_succ]))
    refine wpO_nil ?_
    generalize hW : World.setCell _ _ (.int .i64 (p.clock + m.mins)) = W
    have hX6 : PlAt B (w5.setCell ⟨b.p0, 7, none⟩ (.bool (decide (0 ≤ ee)))) { b with au := u4, abs := bs4 } { p with n := p.n.eraseIdx k, a := ta, bad := decide (0 ≤ ee) } := HX5.out.setOne rfl rfl rfl rfl rfl rfl
    obtain ⟨hX7, hF7⟩ := hX6.setEnd (g := ga) (c := cv) HVE.out j (p.clock + m.mins)
    rw [hW] at hX7 hF7
    have hF57 : Fr b.P w5 W := (frP (b := b) w5).trans hF7
    have HX7 := Lib.hid hX7
    have HF7 := Lib.hid (HF5.out.trans (hF57.mono fun k _ h => .inr (.inr (.inr h))))
    have HS7 := Lib.hid (HS5.out.fr hF57 HX5.out.no_msgP)
    clear hX6 hX7 hF7 hF57 hW z1 z3 z5 z7 zl zz zv zvl zvz q0 q1 q2 q3 q4 q5 q6 q7 q8 q9 y1 y5 yl
    go_wp2_with (go_at_call 35
                 refine (lsend_any B _ _ A4 k4 tm _ (HX7.out.fr0 (by (repeat (first | exact Fr.refl _ _ | assumption | refine Fr.drew ?_ | refine Fr.drewL ?_ | refine Fr.alloc ?_ _)))) (HS7.out.fr0 (by (repeat (first | exact Fr.refl _ _ | assumption | refine Fr.drew ?_ | refine Fr.drewL ?_ | refine Fr.alloc ?_ _)))) HTL.out).mono ?_
                 rintro e w6 ⟨⟨v6, rfl⟩, hX6, hf6⟩)
    exact bodyPost_ret (v := .tuple #[]) (by simp [results, Try.results20, go_sem]) rfl ⟨{ b with au := u4, abs := bs4 }, ⟨_, rfl⟩, rfl, by
      rw [HCS.out]
      unfold comeA
      rw [HTA.out]
      simp only
      have hjt : (m.n - 1).toNat = j := by have := HJ.out; omega
      rw [if_pos (show p.a.begun < ta.begun ∧ 1 ≤ m.n ∧ m.n ≤ (p.ends.length : Int) from ⟨HG.out, hn1', hn2'⟩), hjt, HSO.out.1, Bool.false_or, getD_of' HEE.out]
      exact hX6, (HF7.out.drew.drew).trans (hf6.mono fun k _ h => .inr (.inr (.inl (.inl h))))⟩
  · have HG := Lib.hid hgr
    refine wp_region_o [(0, 0), (1, 0), (2, 0), (5, 0), (3, 1), (4, 2), (6, 0), (7, 0), (8, 0), (9, 1), (10, 0), (11, 0), (12, 0), (13, 0), (15, 0), (16, 0), (17, 0), (14, 1), (18, 1), (19, 1), (20, 0), (21, 0)] (by kernel_rfl) (by kernel_rfl) ?_
    repeat (first
      | (apply wpO_pure rfl rfl; (focus (intro w'; go_simp; (try rfl); done)); try simp only [Act.put, List.setIfInBounds_toArray, List.set_cons_zero, List.set_cons_succ])
      | (apply wpO_read rfl rfl; (focus (intro w' hf' hs'; (try simp only [World.size_drew, World.cell?_drew, World.size_alloc, World.size_setCell] at hs'); go_simp; (try rfl); done)); try simp only [Act.put, List.setIfInBounds_toArray, List.set_cons_zero, List.set_cons_succ])
      | (apply wpO_skip (by decide) rfl rfl; try simp only [Act.put, List.setIfInBounds_toArray, List.set_cons_zero, List.set_cons_succ]))
    refine wpO_loudE rfl fun K hK => ?_
    go_simp
    refine (begun_any b.aq u4 bs4 ta _ (HX4.out.fr0 (by (repeat (first | exact Fr.refl _ _ | assumption | refine Fr.drew ?_ | refine Fr.drewL ?_ | refine Fr.alloc ?_ _)))).ag).mono ?_
    rintro e w5 ⟨rfl, hf5⟩
    refine hK _ _ ⟨hf5, ?_⟩
    clear hK K
    have HX5 := Lib.hid ((HX4.out.fr0 ((Fr.refl No w4).drew)).fr0 hf5)
    have HF5 := Lib.hid ((HF4.out.drew).trans (hf5.any _))
    have HS5 := Lib.hid ((HS4.out.drew).fr0 hf5)
    clear hf5
    repeat (first
      | (apply wpO_pure rfl rfl; (focus (intro w'; go_simp; (try rfl); done)); try simp only [Act.put, List.setIfInBounds_toArray, List.set_cons_zero, List.set_cons_succ])
      | (apply wpO_read rfl rfl; (focus (intro w' hf' hs'; (try simp only [World.size_drew, World.cell?_drew, World.size_alloc, World.size_setCell] at hs'); go_simp; (try rfl); done)); try simp only [Act.put, List.setIfInBounds_toArray, List.set_cons_zero, List.set_cons_succ])
      | (apply wpO_skip (by decide) rfl rfl; try simp only [Act.put, List.setIfInBounds_toArray, List.set_cons_zero, List.set_cons_succ]))
    refine wpO_nil ?_
    go_wp2_with (go_at_call 35
                 refine (lsend_any B _ _ A4 k4 tm _ HX5.out HS5.out HTL.out).mono ?_
                 rintro e w6 ⟨⟨v6, rfl⟩, hX6, hf6⟩)
    exact bodyPost_ret (v := .tuple #[]) (by simp [results, Try.results20, go_sem]) rfl ⟨{ b with au := u4, abs := bs4 }, ⟨_, rfl⟩, rfl, by
      rw [HCS.out]
      unfold comeA
      rw [HTA.out]
      simp only
      rw [if_neg (fun h => HG.out h.1)]
      exact hX6, HF5.out.trans (hf6.mono fun k _ h => .inr (.inr (.inl (.inl h))))⟩
end Go.Proofs.Ytohnchkoldbpcaa

/- agent, the law: a message comes to the hub. -/
namespace Go.Proofs.Ytohnchkoldbpcaa
open Go Go.RowKit Go.Proofs

theorem repsS_n : ∀ (rs : List (Int × Int)) (p : PlayS) (n : List Msg), repsS rs { p with n := n } = { repsS rs p with n := n }
  | [], _, _ => rfl
  | r :: rs, p, n => by
    have e : repS { p with n := n } r = { repS p r with n := n } := by
      unfold repS
      simp only
      split <;> rfl
    rw [repsS, repsS, e, repsS_n rs]
theorem htake_reps (h : HubS) (m : Msg) : ((h.take m).2.2.1 = [] ∨ ((h.take m).2.2.1 = [(m.n, m.code)] ∧ m.kind = 3)) ∧ (h.take m).2.1.length ≤ 1 := by
  unfold HubS.take
  by_cases hh : heardB h.me h.other [2, 3] m = true
  · rw [if_pos hh]
    cases hf : findR m.n h.l with
    | none => exact ⟨.inl rfl, by simp⟩
    | some r =>
      simp only
      rcases heard_kind hh with hk | hk
      · rw [if_pos hk]
        exact ⟨.inl rfl, by simp⟩
      · rw [if_neg (by omega)]
        refine ⟨?_, by simp⟩
        by_cases hs : r.state = 2
        · rw [if_pos hs]; exact .inl rfl
        · rw [if_neg hs]; exact .inr ⟨rfl, hk⟩
  · rw [if_neg hh]
    exact ⟨.inl rfl, by simp⟩
def ChRel (B : Nat) (w : World) (b : PlB) (P0 : PlayS) (rs : List (Int × Int)) (F : Nat → Prop) (g : Nat) (v12 : Value) (wr : World) : Prop :=
  ∃ i : Nat, i + g = rs.length ∧ v12 = .int .i64 i ∧ PlAt B wr b (repsS (rs.take i) P0) ∧ Fr b.P w wr
set_option maxRecDepth 100000 in
set_option maxHeartbeats 2000000 in
theorem comeH_any (B : Nat) (b : PlB) (p : PlayS) (w : World) (X : PlAt B w b p) (I : Inv p) {K : Int} {R : Nat} (M : NumB K R p) (hK : K ≤ 1000000) (hR : R ≤ 1000000) (k : Nat) (m : Msg) (hm : p.n[k]? = some m) (ht : m.to_ ≠ 1) :
    Calls Try.prog 20 #[.pointer (some ⟨b.p0, 0, none⟩), .int .i64 (k : Int)] w fun e w' => ∃ b', (∃ v, e = .returned v) ∧ b'.p0 = b.p0 ∧ PlAt B w' b' (comeS p k) ∧ Fr (fun k => b.H k ∨ b.A k ∨ b.N k ∨ b.P k) w w' := by
  have HTR := Lib.hid (takeR_nil hm)
  have HSO := Lib.hid (inv_asks I)
  have HMO := Lib.hid (I.msg m (List.mem_of_getElem? hm))
  have HX := Lib.hid X
  have HI := Lib.hid I
  have HM := Lib.hid M
  have c2 := X.blk.cell 2
  have cl := X.blk.lt
  simp only [List.getElem?_cons_zero, List.getElem?_cons_succ] at c2
  have HCS := Lib.hid (show comeS p k = comeH p m (p.n.eraseIdx k) by unfold comeS; rw [hm]; simp only; rw [if_neg ht])
  obtain ⟨th, tm, rs, te, hT⟩ : ∃ th tm rs te, p.h.take m = (th, tm, rs, te) := ⟨_, _, _, _, rfl⟩
  have HTA := Lib.hid hT
  have hq := htake_reps p.h m
  rw [hT] at hq
  have HRS := Lib.hid hq.1
  have HTL := Lib.hid (show tm.length ≤ 1000000 by have := hq.2; simp only at this; omega)
  have hrl : rs.length ≤ 1 := by
    rcases hq.1 with h | ⟨h, _⟩
    · simp only at h; rw [h]; simp
    · simp only at h; rw [h]; simp
  clear hT hq
  have hto : (m.to_ == 1) = false := by simpa using ht
  clear X I M hm ht
  go_enter Try.func20, Try.ntmps20
  go_wp2_with (first
    | (go_at_call 38
       refine (take_any b.np b.nm p.n [] (k : Int) _ HX.out.net (by have := HM.out.net; omega)).mono ?_
       rintro e w1 ⟨he, hN1, hf1⟩
       rw [HTR.out] at he hN1
       obtain rfl := he
       have HX1 := Lib.hid (HX.out.turnN hN1 hf1)
       have HF1 : Hid (Fr (fun k => b.H k ∨ b.A k ∨ b.N k ∨ b.P k) w w1) := Lib.hid (hf1.mono fun k _ h => .inr (.inr (.inl (.inl h))))
       have x1 := HX1.out.blk.cell 0
       have xl := HX1.out.blk.lt
       simp only [List.getElem?_cons_zero, List.getElem?_cons_succ] at x1
       have HX2 := Lib.hid (HX1.out.fr0 ((Fr.refl No w1).alloc (Obj.cells m.vals.toArray 26)))
       have HMB2 := Lib.hid (Blk.new w1 26 m.vals)
       have HF2 := Lib.hid (HF1.out.alloc (Obj.cells m.vals.toArray 26))
       clear hN1 hf1))
  refine wp_region_o [(0, 0), (1, 0), (2, 0), (3, 1), (4, 1), (5, 3), (6, 0), (7, 0), (8, 0), (9, 0), (10, 0), (11, 0), (12, 0)] (by kernel_rfl) (by kernel_rfl) ?_
  repeat (first
    | (apply wpO_pure rfl rfl; (focus (intro w'; go_simp; (try rfl); done)); try simp only [Act.put, List.setIfInBounds_toArray, List.set_cons_zero, List.set_cons_succ])
    | (apply wpO_read rfl rfl; (focus (intro w' hf' hs'; (try simp only [World.size_drew, World.cell?_drew, World.size_alloc, World.size_setCell] at hs'); go_simp; (try rfl); done)); try simp only [Act.put, List.setIfInBounds_toArray, List.set_cons_zero, List.set_cons_succ])
    | (apply wpO_skip (by decide) rfl rfl; try simp only [Act.put, List.setIfInBounds_toArray, List.set_cons_zero, List.set_cons_succ]))
  refine wpO_loud rfl fun K hK => ?_
  go_simp
  refine (htake_any b.hp b.hm b.hu b.hbs p.h m _ (HX2.out.fr0 (by (repeat (first | exact Fr.refl _ _ | assumption | refine Fr.drew ?_ | refine Fr.drewL ?_ | refine Fr.alloc ?_ _)))).hub).mono ?_
  rintro e w4 ⟨⟨A4, k4, D4, j4, rfl, hS4, hR4⟩, hH4, hf4⟩
  refine hK _ _ ?_
  clear hK K
  rw [HTA.out] at hS4 hH4 hR4
  rw [HTA.out]
  have hX4 : PlAt B w4 b { p with n := p.n.eraseIdx k, h := th } := (HX2.out.fr0 (by (repeat (first | exact Fr.refl _ _ | assumption | refine Fr.drew ?_ | refine Fr.drewL ?_ | refine Fr.alloc ?_ _)))).turnH hH4 hf4 fun k h => .inl h
  have HX4 := Lib.hid hX4
  have HF4 := Lib.hid (HF2.out.drew.trans (hf4.mono fun k _ h => .inl h))
  have HS4 := Lib.hid hS4
  have HR4 := Lib.hid hR4
  clear hf4 hX4 hH4 hS4 hR4 x1 xl
  repeat (first
    | (apply wpO_pure rfl rfl; (focus (intro w'; go_simp; (try rfl); done)); try simp only [Act.put, List.setIfInBounds_toArray, List.set_cons_zero, List.set_cons_succ])
    | (apply wpO_read rfl rfl; (focus (intro w' hf' hs'; (try simp only [World.size_drew, World.cell?_drew, World.size_alloc, World.size_setCell] at hs'); go_simp; (try rfl); done)); try simp only [Act.put, List.setIfInBounds_toArray, List.set_cons_zero, List.set_cons_succ])
    | (apply wpO_skip (by decide) rfl rfl; try simp only [Act.put, List.setIfInBounds_toArray, List.set_cons_zero, List.set_cons_succ]))
  refine wpO_nil ?_
  have hr0 : (0 : Int) ≤ (rs.length : Int) := by omega
  go_wp2
  go_loopg [12] rs.length (fun g v12 wr => ChRel B w4 b { p with n := p.n.eraseIdx k, h := th } rs b.P g v12 wr)
  case atStart => exact ⟨0, by omega, rfl, HX4.out.fr0 (by (repeat (first | exact Fr.refl _ _ | assumption | refine Fr.drew ?_ | refine Fr.drewL ?_ | refine Fr.alloc ?_ _))), by (repeat (first | exact Fr.refl _ _ | assumption | refine Fr.drew ?_ | refine Fr.drewL ?_ | refine Fr.alloc ?_ _))⟩
  case round =>
    obtain ⟨i, hgi, rfl, hX5, hF5⟩ := hrel
    have hi0 : (0 : Int) ≤ (i : Int) := by omega
    by_cases hi : i < rs.length
    · obtain rfl : i = 0 := by omega
      have HRR : Hid (rs = [(m.n, m.code)] ∧ m.kind = 3) := by
        rcases HRS.out with h | h
        · rw [h] at hi; simp at hi
        · exact Lib.hid h
      have hX5 : PlAt B wr b { p with n := p.n.eraseIdx k, h := th } := hX5
      have hmo := HMO.out
      obtain ⟨hm1, hm2, hm3⟩ := hmo
      have hmc : m.code = m.n % 3 ∧ ∃ e, p.ends[(m.n - 1).toNat]? = some e ∧ 0 ≤ e ∧ e ≤ p.clock := by
        have := HRR.out.2
        rcases hm3 with h | h | h | h
        · omega
        · omega
        · exact h.2
        · omega
      obtain ⟨hmc, ee, hee, hee0, hee1⟩ := hmc
      obtain ⟨j, hj⟩ : ∃ j : Nat, m.n = (j : Int) + 1 := ⟨(m.n - 1).toNat, by omega⟩
      have hjt : (m.n - 1).toNat = j := by omega
      rw [hjt] at hee
      have HJ := Lib.hid hj
      have HJT := Lib.hid hjt
      have hjl : j < p.seen.length := by rw [HI.out.h.seenL]; omega
      obtain ⟨ss, hss⟩ : ∃ ss, p.seen[j]? = some ss := ⟨_, List.getElem?_eq_getElem hjl⟩
      have hss1 := HSO.out.2.2.2 j ss hss
      have hss0 : 0 ≤ ss := by
        have hjr : j < p.h.l.length := by omega
        have := HI.out.h.seen j _ (List.getElem?_eq_getElem hjr)
        rw [hss] at this
        injection this with this
        rw [this]
        split <;> omega
      have hn1 : decide (m.n < 1) = false := by simp only [decide_eq_false_iff_not]; omega
      have hn2 : decide ((p.seen.length : Int) < m.n) = false := by simp only [decide_eq_false_iff_not]; omega
      have hnw : IntKind.i64.wrap (m.n - 1) = (j : Int) := by rw [IntWalk.i64_in _ (by have := HM.out.hl; omega)]; omega
      have hsw : IntKind.i64.wrap (ss + 1) = ss + 1 := IntWalk.i64_in _ (by omega)
      have hcode : (m.code != m.n.tmod 3) = false := by rw [hmc, tmod3 _ (by omega)]; simp
      have hcode2 : m.n.tmod 3 = m.code := by rw [hmc, tmod3 _ (by omega)]
      have hee2 : decide (ee < 0) = false := by simp only [decide_eq_false_iff_not]; omega
      have hee3 : decide (p.clock < ee) = false := by simp only [decide_eq_false_iff_not]; omega
      have hj0 : (0 : Int) ≤ (j : Int) := by omega
      have hj1 : (j : Int) < (p.seen.length : Int) := by omega
      have hj2 : (j : Int) < (p.ends.length : Int) := by rw [HI.out.h.ends]; have := HI.out.h.seenL; omega
      have HSS := Lib.hid hss
      have HEE := Lib.hid hee
      obtain ⟨Av, cv, hve, _⟩ := own_shape hX5.ends
      obtain ⟨As, cs, hvs, _⟩ := own_shape hX5.seen
      have hve : b.ve = .slice Av p.ends.length cv := hve
      have hvs : b.vs = .slice As p.seen.length cs := hvs
      obtain ⟨ga, cura, hAv, hBv, hcv⟩ := row_cell (A := Av) (c := cv) (n := p.ends.length) (by have h1 := hX5.ends; rw [hve] at h1; exact h1) hee rfl
      obtain ⟨gs, curs, hAs, hBs, hcs⟩ := row_cell (A := As) (c := cs) (n := p.seen.length) (by have h1 := hX5.seen; rw [hvs] at h1; exact h1) hss rfl
      subst hAv hAs
      have HVE := Lib.hid hve
      have HVS := Lib.hid hvs
      have n1 : ¬ ga = b.p0 := hX5.ve_p0 (by rw [hve]; rfl)
      have n2 : ¬ gs = b.p0 := hX5.vs_p0 (by rw [hvs]; rfl)
      have n3 : ¬ ga = gs := hX5.ne_rows (by rw [hve]; rfl) (by rw [hvs]; rfl)
      have n1' : ¬ b.p0 = ga := fun e => n1 e.symm
      have n2' : ¬ b.p0 = gs := fun e => n2 e.symm
      have n3' : ¬ gs = ga := fun e => n3 e.symm
      have hR5 := HR4.out.fr hF5 (HX4.out.no_P _ (by decide) (by decide) (by decide))
      obtain ⟨gr, ol, hD, hgr, hrc, ⟨curr, frr, hgrt⟩⟩ := hR5.cells (by omega)
      subst hD
      have r0 := hrc 0 (.int .i64 m.n) (by rw [HRR.out.1]; rfl)
      have r1 := hrc 1 (.int .i64 m.code) (by rw [HRR.out.1]; rfl)
      have n4 : ¬ gr = b.p0 := fun e => hX5.no_P _ (by decide) (by decide) (by decide) _ _ _ hgrt (.inl e)
      have n5 : ¬ gr = gs := fun e => hX5.no_P _ (by decide) (by decide) (by decide) _ _ _ hgrt (.inr (.inr (by rw [hvs, e]; rfl)))
      have n4' : ¬ b.p0 = gr := fun e => n4 e.symm
      have n5' : ¬ gs = gr := fun e => n5 e.symm
      rw [Nat.add_zero] at r0
      have y3 := hX5.blk.cell 3
      have y5 := hX5.blk.cell 5
      have y6 := hX5.blk.cell 6
      have y7 := hX5.blk.cell 7
      have yl := hX5.blk.lt
      have yz := hX5.blk.frozens
      simp only [List.getElem?_cons_zero, List.getElem?_cons_succ] at y3 y5 y6 y7
      rw [hve] at y5
      rw [hvs] at y6
      rw [show PlayS.bad { p with n := p.n.eraseIdx k, h := th } = p.bad from rfl, HSO.out.1] at y7
      have e1 := hBv.cell j
      have e2 := hBv.lt
      rw [hcv] at e1
      have s1 := hBs.cell j
      have s2 := hBs.lt
      have s3 := hBs.frozens
      rw [hcs] at s1
      have hr1 : (0 : Int) < (rs.length : Int) := by omega
      have HX5 := Lib.hid hX5
      have HF5 := Lib.hid hF5
      clear hX5 hF5 hve hvs hBv hBs hcv hcs hR5 hrc hgrt hss hee hm1 hm2 hm3 hmc hj hjt
      go_wp2
      refine wp_region_o [(0, 0), (1, 0), (2, 0), (3, 0), (4, 1), (5, 0), (6, 0), (7, 0), (8, 0), (9, 0), (11, 0), (12, 0), (10, 1), (13, 0), (14, 0), (15, 0), (16, 0), (17, 0), (18, 0), (20, 0), (21, 0), (19, 1), (22, 0), (23, 1), (24, 0), (25, 0), (26, 0), (27, 0), (28, 0), (29, 0), (31, 0), (32, 0), (33, 0), (35, 0), (36, 0), (30, 1), (34, 1), (37, 0), (38, 1), (39, 0), (40, 0), (41, 0), (42, 0), (43, 3)] (by kernel_rfl) (by kernel_rfl) ?_
      repeat (first
        | (apply wpO_pure rfl rfl; (focus (intro w'; go_simp; (try rfl); done)); try simp only [Act.put, List.setIfInBounds_toArray, List.set_cons_zero, List.set_cons_succ])
        | (apply wpO_read rfl rfl; (focus (intro w' hf' hs'; (try simp only [World.size_drew, World.cell?_drew, World.size_alloc, World.size_setCell] at hs'); go_simp; (try rfl); done)); try simp only [Act.put, List.setIfInBounds_toArray, List.set_cons_zero, List.set_cons_succ])
        | (apply wpO_skip (by decide) rfl rfl; try simp only [Act.put, List.setIfInBounds_toArray, List.set_cons_zero, List.set_cons_succ]))
      refine wpO_loud rfl fun K hK => ?_
      go_simp
      refine hK _ _ ?_
      clear hK K
      repeat (first
        | (apply wpO_pure rfl rfl; (focus (intro w'; go_simp; (try rfl); done)); try simp only [Act.put, List.setIfInBounds_toArray, List.set_cons_zero, List.set_cons_succ])
        | (apply wpO_read rfl rfl; (focus (intro w' hf' hs'; (try simp only [World.size_drew, World.cell?_drew, World.size_alloc, World.size_setCell] at hs'); go_simp; (try rfl); done)); try simp only [Act.put, List.setIfInBounds_toArray, List.set_cons_zero, List.set_cons_succ])
        | (apply wpO_skip (by decide) rfl rfl; try simp only [Act.put, List.setIfInBounds_toArray, List.set_cons_zero, List.set_cons_succ]))
      refine wpO_nil ?_
      generalize hW : World.setCell _ _ (.bool _) = W
      have h6 := HX5.out.setSeen (g := gs) (c := cs) HVS.out j (ss + 1)
      have hX7 : PlAt B W b { p with n := p.n.eraseIdx k, h := th, seen := p.seen.set j (ss + 1), bad := false } := by
        rw [← hW]
        exact h6.1.setOne rfl rfl rfl rfl rfl rfl
      have hF7 : Fr b.P w4 W := by
        rw [← hW]
        exact HF5.out.trans (h6.2.trans (frP _))
      have HX7 := Lib.hid hX7
      have HF7 := Lib.hid hF7
      have HRP := Lib.hid (show repsS (rs.take (0 + 1)) { p with n := p.n.eraseIdx k, h := th } = { p with n := p.n.eraseIdx k, h := th, seen := p.seen.set j (ss + 1), bad := false } by
        rw [HRR.out.1]
        show repS _ (m.n, m.code) = _
        unfold repS
        simp only
        rw [if_neg (by simp only [decide_eq_false_iff_not] at hn1 hn2; omega), HJT.out, getD_of' HSS.out, getD_of' HEE.out, HSO.out.1, hcode, hee2, hee3]
        rfl)
      clear h6 hX7 hF7 hW
      go_wp2
      go_roundg (rs.length - (0 + 1))
      case measure => omega
      case rel => exact ⟨0 + 1, by omega, by go_num, by rw [HRP.out]; exact HX7.out.fr0 (by (repeat (first | exact Fr.refl _ _ | assumption | refine Fr.drew ?_ | refine Fr.drewL ?_ | refine Fr.alloc ?_ _))), HF7.out.trans (by (repeat (first | exact Fr.refl _ _ | assumption | refine Fr.drew ?_ | refine Fr.drewL ?_ | refine Fr.alloc ?_ _)))⟩
    · obtain rfl : i = rs.length := by omega
      rw [List.take_length] at hX5
      have HX5 := Lib.hid hX5
      have HF5 := Lib.hid (HF4.out.trans (hF5.mono fun k _ h => .inr (.inr (.inr h))))
      have HS5 := Lib.hid (HS4.out.fr hF5 HX4.out.no_msgP)
      clear hX5 hF5
      go_wp2_with (go_at_call 35
                   refine (lsend_any B _ _ A4 k4 tm _ (HX5.out.fr0 (by (repeat (first | exact Fr.refl _ _ | assumption | refine Fr.drew ?_ | refine Fr.drewL ?_ | refine Fr.alloc ?_ _)))) (HS5.out.fr0 (by (repeat (first | exact Fr.refl _ _ | assumption | refine Fr.drew ?_ | refine Fr.drewL ?_ | refine Fr.alloc ?_ _)))) HTL.out).mono ?_
                   rintro e w6 ⟨⟨v6, rfl⟩, hX6, hf6⟩)
      exact bodyPost_end (v := .tuple #[]) (by simp [results, Try.results20, go_sem]) rfl ⟨b, ⟨_, rfl⟩, rfl, by
        rw [HCS.out]
        unfold comeH
        rw [HTA.out]
        simp only
        have h1 := repsS_n rs { p with h := th } (p.n.eraseIdx k)
        rw [show ({ ({ p with h := th } : PlayS) with n := p.n.eraseIdx k } : PlayS) = { p with n := p.n.eraseIdx k, h := th } from rfl] at h1
        rw [h1] at hX6
        exact hX6, HF5.out.trans (hf6.mono fun k _ h => .inr (.inr (.inl (.inl h))))⟩
end Go.Proofs.Ytohnchkoldbpcaa
