/- A region that draws its order, walked once in an order of our own: pure operations and readers first, the loud ones where nothing else can come up. -/
import Derived.Test.YtegogggemmcgdaaLib
/- as XOrd, but an operation of tag 2 may change the blocks of S, and readers read elsewhere -/
namespace Go.Proofs.Ytegogggemmcgdaa.OS
open Go Go.RowKit

section
variable {S : Nat → Prop} {P : Program} {ops : Array Oper} {Q : Exit → Act → World → Prop} {md : Region.Mode}

/-- whatever has come up, all that it waits for has -/
def Closed (md : Region.Mode) (ops : Array Oper) (listed : Array Bool) : Prop :=
  ∀ j o, ops[j]? = some o → listed.getD j false = true → ∀ e ∈ o.after, Region.binds md e = true → listed.getD e.on false = true
/-- whom an operation waits for, through others too, as bits -/
def maskOf (md : Region.Mode) (acc : List Nat) (o : Oper) : Nat := o.after.toList.foldl (fun m e => if Region.binds md e then m ||| 2 ^ e.on ||| acc.getD e.on 0 else m) 0
def ancs (md : Region.Mode) : List Oper → List Nat → List Nat
  | [], acc => acc
  | o :: r, acc => ancs md r (acc ++ [maskOf md acc o])
def waitsM (anc : List Nat) (i j : Nat) : Bool := (anc.getD j 0).testBit i
theorem mask_fold (acc : List Nat) (i : Nat) : ∀ (l : List Edge) (m : Nat), (l.foldl (fun m e => if Region.binds md e then m ||| 2 ^ e.on ||| acc.getD e.on 0 else m) m).testBit i = true →
    m.testBit i = true ∨ ∃ e ∈ l, Region.binds md e = true ∧ (e.on = i ∨ (acc.getD e.on 0).testBit i = true)
  | [], m, h => .inl h
  | e :: r, m, h => by
    rw [List.foldl_cons] at h
    rcases mask_fold acc i r _ h with h1 | ⟨e', he', h1⟩
    · cases hb : Region.binds md e with
      | false => rw [hb] at h1; simp only [Bool.false_eq_true, if_false] at h1; exact .inl h1
      | true =>
        rw [hb] at h1
        simp only [if_true, Nat.testBit_or, Bool.or_eq_true, Nat.testBit_two_pow, decide_eq_true_eq] at h1
        rcases h1 with (h1 | h1) | h1
        · exact .inl h1
        · exact .inr ⟨e, List.mem_cons_self, hb, .inl h1⟩
        · exact .inr ⟨e, List.mem_cons_self, hb, .inr h1⟩
    · exact .inr ⟨e', List.mem_cons_of_mem _ he', h1⟩
def GoodAnc (md : Region.Mode) (ops : Array Oper) (listed : Array Bool) (anc : List Nat) : Prop :=
  ∀ i j, waitsM anc i j = true → (∀ o, ops[j]? = some o → ∀ e ∈ o.after, Region.binds md e = true → listed.getD e.on false = true) → listed.getD i false = true
theorem ancs_good {listed : Array Bool} (hc : Closed md ops listed) : ∀ (rest pre : List Oper) (acc : List Nat), ops.toList = pre ++ rest → acc.length = pre.length → GoodAnc md ops listed acc → GoodAnc md ops listed (ancs md rest acc)
  | [], _, _, _, _, h => h
  | o :: r, pre, acc, hp, hl, h => by
    unfold ancs
    refine ancs_good hc r (pre ++ [o]) _ (by rw [hp, List.append_assoc]; rfl) (by simp [hl]) ?_
    intro i j hw hj
    unfold waitsM at hw
    rw [List.getD_eq_getElem?_getD] at hw
    rcases Nat.lt_trichotomy j acc.length with h1 | h1 | h1
    · rw [List.getElem?_append_left h1, ← List.getD_eq_getElem?_getD] at hw
      exact h i j hw hj
    · subst h1
      rw [List.getElem?_append_right (Nat.le_refl _)] at hw
      simp only [Nat.sub_self, List.getElem?_cons_zero, Option.getD_some] at hw
      have ho : ops[acc.length]? = some o := by
        rw [← Array.getElem?_toList, hp, hl, List.getElem?_append_right (Nat.le_refl _)]
        simp
      rcases mask_fold acc i _ _ hw with h2 | ⟨e, he, hb, h2⟩
      · rw [Nat.zero_testBit] at h2; cases h2
      · have hle := hj o ho e (by simpa using he) hb
        rcases h2 with rfl | h2
        · exact hle
        · exact h i e.on h2 fun o' ho' => hc _ o' ho' hle
    · rw [List.getElem?_append_right (by omega)] at hw
      rw [List.getElem?_eq_none (by simp; omega)] at hw
      simp at hw
theorem ancs_ok {listed : Array Bool} (hc : Closed md ops listed) : GoodAnc md ops listed (ancs md ops.toList []) :=
  ancs_good hc ops.toList [] [] rfl rfl fun i j h => by simp [waitsM] at h
theorem Closed.set {listed : Array Bool} (hc : Closed md ops listed) {j : Nat} (hj : j ∈ Region.ready md ops listed) : Closed md ops (listed.setIfInBounds j true) := by
  intro k o ho hk e he hb
  by_cases hjk : j = k
  · subst hjk
    obtain ⟨_, o', ho', hall⟩ := mem_ready.1 hj
    rw [ho] at ho'
    injection ho' with ho'
    subst ho'
    exact getD_set_true (hall e he hb)
  · rw [getD_set_ne false hjk] at hk
    exact getD_set_true (hc k o ho hk e he hb)

/-- tags: 0 pure, 1 reader, 2 loud but only new blocks, 3 loud -/
def extTag (tags : List (Nat × Nat)) (j : Nat) : Bool := match tags.lookup j with
  | some 3 => false
  | some _ => true
  | none => false

/-- in a, from w on, o yields v: whatever the world (tag 0), in every world that holds what w holds (tag 1) -/
def Quiet (P : Program) (s : Sem Next) (v : Value) (w : World) : Prop :=
  s.run P w = .ok (.value v) w ∨ ∃ f args, s.run P w = .ok (.enter f args) w ∧ Calls P f args w fun e w' => e = .returned v ∧ w' = w
def YieldsT (S : Nat → Prop) (P : Program) (ops : Array Oper) (pure_ : Bool) (o : Oper) (v : Value) (a : Act) (w : World) : Prop :=
  (Region.wanted o (yielded ops a.tmps) = true ∧ ∀ w', (pure_ = true ∨ Fr S w w') → Quiet P (execOp a.eval o) v w') ∨
  (Region.wanted o (yielded ops a.tmps) = false ∧ v = undef)

def wpAnyE (S : Nat → Prop) (P : Program) (md : Region.Mode) (ops : Array Oper) (ext : Nat → Bool) (Q : Exit → Act → World → Prop) : Nat → Array Bool → Act → World → Prop
  | 0, listed, a, w => Region.ready md ops listed = [] ∧ Q .normal a w
  | fuel + 1, listed, a, w =>
    (Region.ready md ops listed = [] → Q .normal a w) ∧
    ∀ i ∈ Region.ready md ops listed, wpOp P ops Q i (fun a' w' => (ext i = true → Fr S w w') ∧ wpAnyE S P md ops ext Q fuel (listed.setIfInBounds i true) a' w') a w

theorem wpAny_of_E {ext : Nat → Bool} : ∀ (fuel : Nat) (listed : Array Bool) (a : Act) (w : World), wpAnyE S P md ops ext Q fuel listed a w → wpAny P md ops Q fuel listed a w
  | 0, _, _, _, h => h
  | fuel + 1, _, _, _, h => ⟨h.1, fun i hi => wpOp_mono (fun a' w' h' => wpAny_of_E fuel _ a' w' h'.2) (h.2 i hi)⟩

theorem wpOp_put' {j : Nat} {oi oj : Oper} {v : Value} (hj : ops[j]? = some oj) (hap : oi.apart ops oj = true)
    (hsi : ∀ cs b, oi.op ≠ .select cs b) (hsj : ∀ cs b, oj.op ≠ .select cs b) (hQ : ∀ c a w, ¬ Q (.panic c) a w) {K : Act → World → Prop} {a : Act} {w : World}
    (h : wpOp P ops Q j K (a.put oi.dst v) w) :
    wpOp P ops Q j (fun a' w' => (execOp a'.eval oi = execOp a.eval oi ∧ Region.wanted oi (yielded ops a'.tmps) = Region.wanted oi (yielded ops a.tmps)) ∧ K (a'.put oi.dst v) w') a w := by
  obtain ⟨h1, h2, h3⟩ := Oper.apart_spec hap
  have keep : ∀ u, execOp (a.put oj.dst u).eval oi = execOp a.eval oi ∧ Region.wanted oi (yielded ops (a.put oj.dst u).tmps) = Region.wanted oi (yielded ops a.tmps) := fun u =>
    ⟨execOp_put oi hsi a oj.dst u h3, wanted_put oi a oj.dst u h3⟩
  unfold wpOp at *
  simp only [hj] at *
  rw [wanted_put oj a oi.dst v h1] at h
  split
  · rename_i hw
    simp only [hw, if_true] at h
    rcases h with h | ⟨hasks, hlets⟩
    case inr => exact .inr ⟨by unfold Oper.asks at *; rw [execOp_put oj hsj a oi.dst v h1] at hasks; exact hasks, hlets⟩
    refine .inl ?_
    unfold Oper.wp at *
    rw [execOp_put oj hsj a oi.dst v h1] at h
    generalize (execOp a.eval oj).run P w = r at *
    cases r with
    | ok n w' =>
      cases n <;> simp only [Oper.upon] at h ⊢
      case value u => exact ⟨keep u, by rw [← Act.put_comm a v u h2]; exact h⟩
      case skip => exact ⟨keep _, by rw [← Act.put_comm a v undef h2]; exact h⟩
      case defer d =>
        have k2 := keep (undef)
        refine ⟨?_, ?_⟩
        · have e1 : execOp (({ a with defers := d :: a.defers } : Act).put oj.dst undef).eval oi = execOp ({ a with defers := d :: a.defers } : Act).eval oi := execOp_put oi hsi _ oj.dst undef h3
          have e2 := wanted_put (ops := ops) oi ({ a with defers := d :: a.defers } : Act) oj.dst undef h3
          exact ⟨e1, e2⟩
        · rw [← Act.put_comm _ v undef h2, ← Act.put_defers]
          exact h
      case enter f args =>
        refine Calls.mono h fun e w'' he => ?_
        cases e with
        | returned u => exact ⟨keep u, by rw [← Act.put_comm a v u h2]; exact he⟩
        | panicked c => exact (hQ _ _ _ he).elim
        | outgrown => exact he
      case row row args => exact Rows.mono h fun u w'' he => ⟨keep u, by rw [← Act.put_comm a v u h2]; exact he⟩
    | halt x w' =>
      cases x <;> simp only [Oper.upon] at h ⊢
      case panic u => exact (hQ _ _ _ h).elim
  · rename_i hw
    simp only [hw] at h
    exact ⟨keep _, by rw [← Act.put_comm a v undef h2]; exact h⟩

theorem YieldsT.wpOp {i : Nat} {o : Oper} {pu : Bool} {v : Value} {a : Act} {w : World} (hi : ops[i]? = some o) (hy : YieldsT S P ops pu o v a w)
    {K : Act → World → Prop} (h : K (a.put o.dst v) w) : wpOp P ops Q i K a w := by
  unfold Go.wpOp
  simp only [hi]
  rcases hy with ⟨hw, hv⟩ | ⟨hw, rfl⟩
  · rcases hv w (.inr (Fr.refl _ _)) with hr | ⟨f, args, hr, hc⟩
    · simp only [hw, if_true, Oper.wp, hr, Oper.upon]; exact .inl h
    · simp only [hw, if_true, Oper.wp, hr, Oper.upon]
      refine .inl (Calls.mono hc fun e w' he => ?_)
      obtain ⟨rfl, rfl⟩ := he
      exact h
  · simp only [hw, Bool.false_eq_true, if_false]; exact h

theorem wpAnyE_first {anc : List Nat} (hW : ∀ listed, Closed md ops listed → GoodAnc md ops listed anc) {ext : Nat → Bool} {i : Nat} {oi : Oper} {pu : Bool} {v : Value} (hi : ops[i]? = some oi) (hsel : ∀ (j : Nat) (o : Oper) cs b, ops[j]? = some o → o.op ≠ .select cs b)
    (hQ : ∀ c a w, ¬ Q (.panic c) a w) :
    ∀ (fuel : Nat) (listed : Array Bool) (a : Act) (w : World), Closed md ops listed →
      (∀ j oj, ops[j]? = some oj → j ≠ i → listed.getD j true = false → waitsM anc i j = false → oi.apart ops oj = true ∧ (pu = true ∨ ext j = true)) →
      i ∈ Region.ready md ops listed → YieldsT S P ops pu oi v a w →
      wpAnyE S P md ops ext Q fuel (listed.setIfInBounds i true) (a.put oi.dst v) w → wpAnyE S P md ops ext Q (fuel + 1) listed a w := by
  intro fuel
  induction fuel with
  | zero =>
    intro listed a w _ _ hr hy H
    refine ⟨fun h => (by rw [h] at hr; cases hr), fun j hj => ?_⟩
    by_cases hji : j = i
    · subst hji; exact hy.wpOp hi ⟨fun _ => Fr.refl _ _, H⟩
    · have := ready_mono hj hji
      rw [H.1] at this
      cases this
  | succ fuel ih =>
    intro listed a w hc hfree hr hy H
    refine ⟨fun h => (by rw [h] at hr; cases hr), fun j hj => ?_⟩
    by_cases hji : j = i
    · subst hji; exact hy.wpOp hi ⟨fun _ => Fr.refl _ _, H⟩
    · have h1 := H.2 j (ready_mono hj hji)
      obtain ⟨hjun, oj, hoj, hall⟩ := mem_ready.1 hj
      have hnot : waitsM anc i j = false := by
        cases hwt : waitsM anc i j with
        | false => rfl
        | true =>
          have h1 := hW listed hc i j hwt fun o ho => by
            rw [hoj] at ho
            injection ho with ho
            subst ho
            exact hall
          have h0 := (mem_ready.1 hr).1
          rcases Nat.lt_or_ge i listed.size with h' | h'
          · simp [h'] at h0 h1; rw [h0] at h1; cases h1
          · simp [Array.getElem?_eq_none h'] at h1
      obtain ⟨hap, hex⟩ := hfree j oj hoj hji hjun hnot
      have h2 := wpOp_put' hoj hap (fun cs b => hsel i oi cs b hi) (fun cs b => hsel j oj cs b hoj) hQ h1
      refine wpOp_mono (fun a' w' h3 => ⟨h3.2.1, ?_⟩) h2
      have hy' : YieldsT S P ops pu oi v a' w' := by
        unfold YieldsT at *
        rw [h3.1.1, h3.1.2]
        rcases hy with ⟨hw, hv⟩ | hy
        · refine .inl ⟨hw, fun w2 h2 => hv w2 ?_⟩
          rcases h2 with h2 | h2
          · exact .inl h2
          · rcases hex with hp | hx
            · exact .inl hp
            · exact .inr ((h3.2.1 hx).trans h2)
        · exact .inr hy
      have hfree' : ∀ k ok, ops[k]? = some ok → k ≠ i → (listed.setIfInBounds j true).getD k true = false → waitsM anc i k = false → oi.apart ops ok = true ∧ (pu = true ∨ ext k = true) := fun k ok hk hki hun hno => by
        refine hfree k ok hk hki ?_ hno
        by_cases hjk : j = k
        · subst hjk; exact hjun
        · rw [getD_set_ne true hjk] at hun; exact hun
      refine ih (listed.setIfInBounds j true) a' w' (hc.set hj) hfree' (ready_mono hr (Ne.symm hji)) hy' ?_
      rw [Array.setIfInBounds_comm _ _ hji]
      exact h3.2.2

/-- may i be taken now? -/
def freeT (anc : List Nat) (ops : Array Oper) (tags : List (Nat × Nat)) (listed : Array Bool) (pu : Bool) (i : Nat) : Bool :=
  match ops[i]? with
  | none => false
  | some oi => (List.range ops.size).all fun j => j == i || listed.getD j true || waitsM anc i j || match ops[j]? with
      | some oj => oi.apart ops oj && (pu || extTag tags j)
      | none => true
theorem freeT_spec {anc : List Nat} {tags : List (Nat × Nat)} {listed : Array Bool} {pu : Bool} {i : Nat} {oi : Oper} (hi : ops[i]? = some oi) (h : freeT anc ops tags listed pu i = true) (j : Nat) (oj : Oper)
    (hj : ops[j]? = some oj) (hne : j ≠ i) (hun : listed.getD j true = false) (hno : waitsM anc i j = false) : oi.apart ops oj = true ∧ (pu = true ∨ extTag tags j = true) := by
  simp only [freeT, hi, List.all_eq_true, List.mem_range] at h
  have h1 := h j (Array.getElem?_eq_some_iff.1 hj).1
  simp only [hj, Bool.or_eq_true, Bool.and_eq_true, beq_iff_eq, hne, false_or, hun, hno, Bool.false_eq_true] at h1
  exact h1

/-- is the order one that serves all? ord: each operation's number and tag -/
def okOrd (anc : List Nat) (md : Region.Mode) (ops : Array Oper) (tags : List (Nat × Nat)) : List (Nat × Nat) → Array Bool → Bool
  | [], listed => (Region.ready md ops listed).isEmpty
  | (i, t) :: rest, listed =>
    (match t with
      | 0 => (Region.ready md ops listed).contains i && freeT anc ops tags listed true i
      | 1 => (Region.ready md ops listed).contains i && freeT anc ops tags listed false i
      | _ => Region.ready md ops listed == [i]) && okOrd anc md ops tags rest (listed.setIfInBounds i true)
def okRegion (md : Region.Mode) (ops : Array Oper) (ord : List (Nat × Nat)) : Bool := Region.noSelect ops && okOrd (ancs md ops.toList []) md ops ord ord (Array.replicate ops.size false) && ord.length == ops.size

/-- THE WALK -/
def wpSt (S : Nat → Prop) (P : Program) (ops : Array Oper) (Q : Exit → Act → World → Prop) : List (Oper × Nat) → Act → World → Prop
  | [], a, w => Q .normal a w
  | (o, t) :: rest, a, w => match t with
    | 0 => ∃ v, YieldsT S P ops true o v a w ∧ wpSt S P ops Q rest (a.put o.dst v) w
    | 1 => ∃ v, YieldsT S P ops false o v a w ∧ wpSt S P ops Q rest (a.put o.dst v) w
    | 2 => if Region.wanted o (yielded ops a.tmps) = true then o.wp P a w (fun a' w' => Fr S w w' ∧ wpSt S P ops Q rest a' w') Q else wpSt S P ops Q rest (a.put o.dst undef) w
    | _ => if Region.wanted o (yielded ops a.tmps) = true then o.wp P a w (wpSt S P ops Q rest) Q else wpSt S P ops Q rest (a.put o.dst undef) w

theorem wpAnyE_of_St {anc : List Nat} (hW : ∀ listed, Closed md ops listed → GoodAnc md ops listed anc) {tags : List (Nat × Nat)} (hs : Region.noSelect ops = true) (hQ : ∀ c a w, ¬ Q (.panic c) a w) :
    ∀ (ord : List (Nat × Nat)) (l : List (Oper × Nat)) (listed : Array Bool) (a : Act) (w : World), (l.map (·.2) = ord.map (·.2)) → (∀ k : Nat, (ord[k]?).bind (fun x : Nat × Nat => ops[x.1]?) = (l[k]?).map (·.1)) →
      (∀ x ∈ ord, extTag tags x.1 = decide (x.2 < 3)) → Closed md ops listed → okOrd anc md ops tags ord listed = true → wpSt S P ops Q l a w → wpAnyE S P md ops (extTag tags) Q ord.length listed a w
  | [], l, listed, a, w, hl, _, _, _, hok, h => by
    have : l = [] := by simpa using hl
    subst this
    simp only [okOrd, List.isEmpty_iff] at hok
    exact ⟨hok, h⟩
  | (i, t) :: ord, l, listed, a, w, hl, hk, hx, hc, hok, h => by
    match l, hl with
    | (o, t') :: l', hl1 =>
      simp only [List.map_cons, List.cons.injEq] at hl1
      obtain ⟨rfl, hl2⟩ := hl1
      have hi : ops[i]? = some o := by simpa using hk 0
      have hk' : ∀ k : Nat, (ord[k]?).bind (fun x : Nat × Nat => ops[x.1]?) = (l'[k]?).map (·.1) := fun k => by simpa using hk (k + 1)
      have hx' : ∀ x ∈ ord, extTag tags x.1 = decide (x.2 < 3) := fun x hxm => hx x (List.mem_cons_of_mem _ hxm)
      have hxi : extTag tags i = decide (t' < 3) := hx (i, t') List.mem_cons_self
      have quiet : ∀ pu : Bool, ((Region.ready md ops listed).contains i && freeT anc ops tags listed pu i) = true → okOrd anc md ops tags ord (listed.setIfInBounds i true) = true →
          (∃ v, YieldsT S P ops pu o v a w ∧ wpSt S P ops Q l' (a.put o.dst v) w) → wpAnyE S P md ops (extTag tags) Q (ord.length + 1) listed a w := by
        rintro pu h1 h2 ⟨v, hy, hr⟩
        simp only [Bool.and_eq_true] at h1
        have hri : i ∈ Region.ready md ops listed := by simpa using h1.1
        exact wpAnyE_first hW hi (Region.noSelect_spec hs) hQ ord.length listed a w hc (freeT_spec hi h1.2) hri hy
          (wpAnyE_of_St hW hs hQ ord l' _ _ _ hl2 hk' hx' (hc.set hri) h2 hr)
      have loud : ∀ K : Act → World → Prop, (∀ a' w', K a' w' → (extTag tags i = true → Fr S w w') ∧ wpSt S P ops Q l' a' w') →
          (Region.ready md ops listed == [i]) = true → okOrd anc md ops tags ord (listed.setIfInBounds i true) = true →
          (if Region.wanted o (yielded ops a.tmps) = true then o.wp P a w K Q else wpSt S P ops Q l' (a.put o.dst undef) w) → wpAnyE S P md ops (extTag tags) Q (ord.length + 1) listed a w := by
        intro K hK h1 h2 h3
        have hri : Region.ready md ops listed = [i] := by simpa using h1
        refine ⟨fun h => (by rw [h] at hri; cases hri), fun j hj => ?_⟩
        rw [hri] at hj
        obtain rfl : j = i := by simpa using hj
        have hmem : j ∈ Region.ready md ops listed := by rw [hri]; exact List.mem_cons_self
        unfold wpOp
        simp only [hi]
        split
        · rename_i hw
          rw [if_pos hw] at h3
          exact .inl (Oper.wp_mono (fun a' w' h' => ⟨(hK a' w' h').1, wpAnyE_of_St hW hs hQ ord l' _ _ _ hl2 hk' hx' (hc.set hmem) h2 (hK a' w' h').2⟩) h3)
        · rename_i hw
          rw [if_neg hw] at h3
          exact ⟨fun _ => Fr.refl _ _, wpAnyE_of_St hW hs hQ ord l' _ _ _ hl2 hk' hx' (hc.set hmem) h2 h3⟩
      match t', hok, h, hxi, hx with
      | 0, hok, h, _, _ =>
        simp only [okOrd, Bool.and_eq_true] at hok
        exact quiet true (by simpa using hok.1) hok.2 h
      | 1, hok, h, _, _ =>
        simp only [okOrd, Bool.and_eq_true] at hok
        exact quiet false (by simpa using hok.1) hok.2 h
      | 2, hok, h, _, _ =>
        simp only [okOrd, Bool.and_eq_true] at hok
        exact loud _ (fun a' w' h' => ⟨fun _ => h'.1, h'.2⟩) hok.1 hok.2 h
      | t + 3, hok, h, hxi, _ =>
        simp only [okOrd, Bool.and_eq_true] at hok
        have : extTag tags i = false := by rw [hxi]; simp
        exact loud _ (fun a' w' h' => ⟨fun he => (by rw [this] at he; cases he), h'⟩) hok.1 hok.2 h

/-- no panic -/
def NoPan (Q : Exit → Act → World → Prop) : Exit → Act → World → Prop
  | .panic _, _, _ => False
  | e, a, w => Q e a w

/-- **a region that draws its order, walked in the order 'ord'** -/
theorem wp_region_st {id : Nat} {a : Act} {w : World} (ord : List (Nat × Nat)) (l : List (Oper × Nat)) {lo : List Oper} (hm : P.follows .mixedOrders = true)
    (hl : l = ord.map fun x => (lo.getD x.1 default, x.2)) (hB : (okRegion .any lo.toArray ord && ord.all fun x => decide (x.1 < lo.length) && (extTag ord x.1 == decide (x.2 < 3))) = true)
    (h : wpSt S P lo.toArray (NoPan Q) l a w.drew) : (Code.region id lo.toArray true).wp P Q a w := by
  simp only [okRegion, Bool.and_eq_true, beq_iff_eq, List.all_eq_true, decide_eq_true_eq] at hB
  obtain ⟨⟨⟨hs, hok⟩, hlen⟩, hall⟩ := hB
  have h1 : (Code.region id lo.toArray true).wp P (NoPan Q) a w := by
    refine wp_region_any hm (wpAny_of_E (S := S) _ _ _ _ (ext := extTag ord) ?_)
    rw [← hlen]
    refine wpAnyE_of_St (fun _ hc => ancs_ok hc) hs (fun c a w h => h) ord l _ _ _ (by rw [hl, List.map_map]; rfl) ?_ (fun x hx => (hall x hx).2) ?_ (by simpa [hlen] using hok) h
    · intro k
      rw [hl]
      simp only [List.getElem?_map, Option.map_map]
      cases hk : ord[k]? with
      | none => rfl
      | some x =>
        have hx := (hall x (List.mem_of_getElem? hk)).1
        simp [hx]
    · intro j o ho hj
      exfalso
      simp only [Array.getD_eq_getD_getElem?, Array.getElem?_replicate] at hj
      split at hj <;> simp at hj
  refine Code.wp_mono ?_ h1
  intro e a w h
  cases e <;> first | exact h | exact h.elim
end

/-- the walk, over the numbers -/
def wpO (S : Nat → Prop) (P : Program) (lo : List Oper) (Q : Exit → Act → World → Prop) (ord : List (Nat × Nat)) (a : Act) (w : World) : Prop :=
  wpSt S P lo.toArray (NoPan Q) (ord.map fun x => (lo.getD x.1 default, x.2)) a w

theorem wp_region_o (S : Nat → Prop) {P : Program} {Q : Exit → Act → World → Prop} {id : Nat} {a : Act} {w : World} (ord : List (Nat × Nat)) {lo : List Oper} (hm : P.follows .mixedOrders = true)
    (hB : (okRegion .any lo.toArray ord && ord.all fun x => decide (x.1 < lo.length) && (extTag ord x.1 == decide (x.2 < 3))) = true)
    (h : wpO S P lo Q ord a w.drew) : (Code.region id lo.toArray true).wp P Q a w := wp_region_st (S := S) ord _ hm rfl hB h

section
variable {S : Nat → Prop} {P : Program} {lo : List Oper} {Q : Exit → Act → World → Prop} {a : Act} {w : World} {rest : List (Nat × Nat)} {o : Oper} {i : Nat}
theorem getD_of (ho : lo[i]? = some o) : lo.getD i default = o := by simp [List.getD, ho]
theorem wpO_pure {v : Value} (ho : lo[i]? = some o) (hw : Region.wanted o (yielded lo.toArray a.tmps) = true) (hy : ∀ w', (execOp a.eval o).run P w' = .ok (.value v) w') (h : wpO S P lo Q rest (a.put o.dst v) w) : wpO S P lo Q ((i, 0) :: rest) a w := by
  unfold wpO
  simp only [List.map_cons, getD_of ho]
  exact ⟨v, .inl ⟨hw, fun w' _ => .inl (hy w')⟩, h⟩
theorem wpO_read {v : Value} (ho : lo[i]? = some o) (hw : Region.wanted o (yielded lo.toArray a.tmps) = true) (hy : ∀ w', Fr S w w' → (∀ b o, b < w.heap.size → ¬ S b → w'.cell? ⟨b, o, none⟩ = w.cell? ⟨b, o, none⟩) → (execOp a.eval o).run P w' = .ok (.value v) w') (h : wpO S P lo Q rest (a.put o.dst v) w) : wpO S P lo Q ((i, 1) :: rest) a w := by
  unfold wpO
  simp only [List.map_cons, getD_of ho]
  exact ⟨v, .inl ⟨hw, fun w' h' => .inl (hy w' (h'.resolve_left (by simp)) (fun b o hb hs => (h'.resolve_left (by simp)).cell (p := ⟨b, o, none⟩) hb hs))⟩, h⟩
/-- a call that only reads -/
theorem wpO_call {v : Value} (f : Nat) (args : Array Value) (ho : lo[i]? = some o) (hw : Region.wanted o (yielded lo.toArray a.tmps) = true) (hr : ∀ w', (execOp a.eval o).run P w' = .ok (.enter f args) w')
    (hc : ∀ w', Fr S w w' → Calls P f args w' fun e w'' => e = .returned v ∧ w'' = w') (h : wpO S P lo Q rest (a.put o.dst v) w) : wpO S P lo Q ((i, 1) :: rest) a w := by
  unfold wpO
  simp only [List.map_cons, getD_of ho]
  exact ⟨v, .inl ⟨hw, fun w' h' => .inr ⟨f, args, hr w', hc w' (h'.resolve_left (by simp))⟩⟩, h⟩
theorem wpO_skip {t : Nat} (ht : t < 2) (ho : lo[i]? = some o) (hw : Region.wanted o (yielded lo.toArray a.tmps) = false) (h : wpO S P lo Q rest (a.put o.dst undef) w) : wpO S P lo Q ((i, t) :: rest) a w := by
  unfold wpO
  simp only [List.map_cons, getD_of ho]
  match t, ht with
  | 0, _ => exact ⟨undef, .inr ⟨hw, rfl⟩, h⟩
  | 1, _ => exact ⟨undef, .inr ⟨hw, rfl⟩, h⟩
theorem wpO_loudE (ho : lo[i]? = some o) (h : ∀ K : Act → World → Prop, (∀ a' w', Fr S w w' ∧ wpO S P lo Q rest a' w' → K a' w') → if Region.wanted o (yielded lo.toArray a.tmps) = true then o.wp P a w K (NoPan Q) else K (a.put o.dst undef) w) :
    wpO S P lo Q ((i, 2) :: rest) a w := by
  unfold wpO
  simp only [List.map_cons, getD_of ho]
  have h1 := h _ (fun _ _ h => h)
  show if _ then _ else _
  split
  · rename_i hw
    rw [if_pos hw] at h1
    exact h1
  · rename_i hw
    rw [if_neg hw] at h1
    exact h1.2
theorem wpO_loud (ho : lo[i]? = some o) (h : ∀ K : Act → World → Prop, (∀ a' w', wpO S P lo Q rest a' w' → K a' w') → if Region.wanted o (yielded lo.toArray a.tmps) = true then o.wp P a w K (NoPan Q) else K (a.put o.dst undef) w) :
    wpO S P lo Q ((i, 3) :: rest) a w := by
  unfold wpO
  simp only [List.map_cons, getD_of ho]
  exact h _ (fun _ _ h => h)
theorem wpO_nil (h : Q .normal a w) : wpO S P lo Q [] a w := h
attribute [irreducible] wpO
end
end Go.Proofs.Ytegogggemmcgdaa.OS
