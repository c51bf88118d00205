/- A region that draws its order: each operation of the head is told by itself, by a word on the values that it uses; a tail waits for all of the head. One goal an operation, whatever the order. -/
import Derived.Test.YtjpdebgejlfeaaaDoorFltZ
namespace Go.Proofs.YtjpdebgejlfeaaaDoor
open Go.RowKit

section
variable {P : Program}
/-- What the operands read as, a slot's value given by τ. -/
def evalOf (τ : Nat → Value) : Operand → Value
  | .tmp t => τ t
  | .const v => v
  | .global g => .pointer (some ⟨g, 0, none⟩)
  | .func f => .func (.func f) #[] #[]
theorem eval_evalOf (a : Act) : a.eval = evalOf (fun t => a.tmps.getD t undef) := by
  funext x; cases x <;> rfl
/-- What an operation yields, and the world behind it. -/
def Does (P : Program) (o : Oper) (ρ : Operand → Value) (w : World) (R : Value → World → Prop) : Prop :=
  match (execOp ρ o).run P w with
  | .ok (.value v) w' => R v w'
  | .ok .skip w' => R undef w'
  | .ok (.enter f args) w' => Calls P f args w' (fun e w'' => ∃ v, e = .returned v ∧ R v w'')
  | _ => False
theorem Does.wp {o : Oper} {a : Act} {w : World} {R : Value → World → Prop} {K : Act → World → Prop} {Q : Exit → Act → World → Prop} (h : Does P o a.eval w R) (hK : ∀ v w', R v w' → K (a.put o.dst v) w') : o.wp P a w K Q := by
  unfold Does at h
  unfold Oper.wp
  generalize (execOp a.eval o).run P w = r at *
  cases r with
  | ok n w' =>
    cases n <;> simp only [Oper.upon] at h ⊢
    case value v => exact hK _ _ h
    case skip => exact hK _ _ h
    case enter f args => exact h.mono fun e w'' ⟨v, he, hr⟩ => by subst he; exact hK _ _ hr
  | halt x w' => exact absurd h (by simp)
theorem Does.val {o : Oper} {ρ : Operand → Value} {w w' : World} {v : Value} {R : Value → World → Prop} (h : (execOp ρ o).run P w = .ok (.value v) w') (hR : R v w') : Does P o ρ w R := by
  unfold Does; rw [h]; exact hR
theorem Does.call {o : Oper} {ρ : Operand → Value} {w w' : World} {f : FuncId} {args : Array Value} {R : Value → World → Prop} (h : (execOp ρ o).run P w = .ok (.enter f args) w') (hR : Calls P f args w' (fun e w'' => ∃ v, e = .returned v ∧ R v w'')) : Does P o ρ w R := by
  unfold Does; rw [h]; exact hR
/-- The word on an operation: the operations whose values it uses; what is known of its own value, given theirs. -/
structure RS where
  D : List Nat
  ψ : List Value → Value → World → Prop
  mono : ∀ vs v w w', ψ vs v w → Ext w w' → ψ vs v w'
/-- An operation that yields a value told by those that it uses. -/
def RS.q (D : List Nat) (g : List Value → Value) : RS := ⟨D, fun vs v _ => v = g vs, fun _ _ _ _ h _ => h⟩
def RS.at_ (sp : List RS) (i : Nat) : RS := sp.getD i ⟨[], fun _ _ _ => True, fun _ _ _ _ h _ => h⟩
def dstOf (l : List Oper) (i : Nat) : Option Tmp := (l[i]?).bind (·.dst)
/-- What is known of the value of operation i. -/
def factOf (sp : List RS) (V : Nat → Value) (w : World) (i : Nat) : Prop := (RS.at_ sp i).ψ ((RS.at_ sp i).D.map V) (V i) w
/-- A closed look at the region: n operations in the head, all without guards; each waits for elder ones alone, and for those whose values it uses; each has a slot of its own; the tail waits for all of the head. -/
def relB (md : Region.Mode) (l : List Oper) (D : List (List Nat)) (n : Nat) (fl : List Nat := []) : Bool :=
  decide (n ≤ l.length) && ((List.range n).all fun i => match l[i]? with
    | none => false
    | some o => o.guard.isNone && (o.dst.isSome && (o.after.all (fun e => !Region.binds md e || decide (e.on < i)) && (((D.getD i []).all fun j => o.after.any fun e => Region.binds md e && e.on == j) &&
        (List.range i).all fun j => dstOf l j != o.dst)))) &&
  (List.range l.length).all fun t => decide (t < n) || match l[t]? with
    | none => false
    | some o => (List.range n).all fun i => fl.contains i || o.after.any fun e => Region.binds md e && e.on == i
/-- A closed look at the operations that may float past the tail's beginning: what they wait for is no such operation; they are apart from what does not wait for them. -/
def fltB (md : Region.Mode) (l : List Oper) (n : Nat) (fl : List Nat) : Bool :=
  Region.noSelect l.toArray && fl.all fun i => decide (i < n) && match l[i]? with
    | none => false
    | some o => o.after.all (fun e => !Region.binds md e || !(fl.contains e.on)) && (List.range l.length).all fun j => j == i || match l[j]? with
      | none => true
      | some oj => o.after.any (fun e => Region.binds md e && e.on == j) || (oj.after.any (fun e => Region.binds md e && e.on == i) || o.apart l.toArray oj)
/-- The slots of the first operations are filled. -/
def putAll (V : Nat → Value) : List Oper → Nat → Act → Act
  | [], _, a => a
  | o :: l, i, a => putAll V l (i + 1) (a.put o.dst (V i))
theorem put_size (a : Act) (d : Option Tmp) (v : Value) : (a.put d v).tmps.size = a.tmps.size ∧ (a.put d v).defers = a.defers := by
  cases d <;> simp [Act.put]
theorem put_getD (a : Act) (d : Tmp) (v : Value) (t : Nat) (hd : d < a.tmps.size) : (a.put (some d) v).tmps.getD t undef = if t = d then v else a.tmps.getD t undef := by
  by_cases e : t = d
  · subst e; simp [Act.put, hd]
  · simp [Act.put, Array.getD_eq_getD_getElem?, Ne.symm e, e]
/-- The state while the head is worked off. -/
structure RInv (C : World → Prop) (l : List Oper) (n : Nat) (sp : List RS) (a0 : Act) (V : Nat → Value) (listed : Array Bool) (a : Act) (w : World) : Prop where
  size : listed.size = l.length
  tail : ∀ t, n ≤ t → t < l.length → listed.getD t true = false
  closed : ∀ i o, i < n → l[i]? = some o → listed.getD i true = true → ∀ e ∈ o.after, Region.binds .any e = true → listed.getD e.on false = true
  asz : a.tmps.size = a0.tmps.size
  adf : a.defers = a0.defers
  slot : ∀ i d, i < n → listed.getD i true = true → dstOf l i = some d → a.tmps.getD d undef = V i
  other : ∀ t, (∀ i, i < n → listed.getD i true = true → dstOf l i ≠ some t) → a.tmps.getD t undef = a0.tmps.getD t undef
  fact : ∀ i, i < n → listed.getD i true = true → factOf sp V w i
  wld : C w
theorem getD_set_new {listed : Array Bool} {i : Nat} (h : listed.getD i true = false) : (listed.setIfInBounds i true).getD i true = true := by
  rcases Nat.lt_or_ge i listed.size with h' | h'
  · simp [h']
  · simp [Array.getElem?_eq_none h'] at h
theorem getD_t {listed : Array Bool} {i : Nat} (h : listed.getD i false = true) : listed.getD i true = true := by
  rcases Nat.lt_or_ge i listed.size with h' | h'
  · simp [h'] at h ⊢; exact h
  · simp [Array.getElem?_eq_none h'] at h
theorem getD_f {listed : Array Bool} {i : Nat} (hi : i < listed.size) (h : listed.getD i true = true) : listed.getD i false = true := by
  simp [hi] at h ⊢; exact h
/-- How many of the first operations have not come up. -/
def cntU (listed : Array Bool) : Nat → Nat
  | 0 => 0
  | k + 1 => cntU listed k + if listed.getD k true = true then 0 else 1
theorem cntU_out (listed : Array Bool) (i : Nat) : ∀ k, k ≤ i → cntU (listed.setIfInBounds i true) k = cntU listed k
  | 0, _ => rfl
  | k + 1, h => by rw [cntU, cntU, cntU_out listed i k (by omega), getD_set_ne true (by omega)]
theorem cntU_set {listed : Array Bool} {i : Nat} (hi : listed.getD i true = false) : ∀ k, i < k → cntU (listed.setIfInBounds i true) k + 1 = cntU listed k
  | 0, h => by omega
  | k + 1, h => by
    rw [cntU, cntU]
    by_cases e : i = k
    · subst e
      rw [cntU_out listed i i (Nat.le_refl _), getD_set_new hi, hi]
      simp
    · have := cntU_set hi k (by omega)
      rw [getD_set_ne true e]
      omega
theorem cntU_zero {listed : Array Bool} : ∀ k, cntU listed k = 0 → ∀ i, i < k → listed.getD i true = true
  | 0, _, _, h => by omega
  | k + 1, h, i, hi => by
    rw [cntU] at h
    by_cases e : i = k
    · subst e
      by_cases hl : listed.getD i true = true
      · exact hl
      · rw [if_neg hl] at h; omega
    · exact cntU_zero k (by omega) i (by omega)
theorem cntU_pos {listed : Array Bool} : ∀ k, cntU listed k ≠ 0 → ∃ i, i < k ∧ listed.getD i true = false ∧ ∀ j, j < i → listed.getD j true = true
  | 0, h => by simp [cntU] at h
  | k + 1, h => by
    rw [cntU] at h
    by_cases hk : cntU listed k = 0
    · by_cases hl : listed.getD k true = true
      · rw [if_pos hl, hk] at h; omega
      · exact ⟨k, by omega, Bool.eq_false_iff.2 hl, cntU_zero k hk⟩
    · obtain ⟨i, h1, h2, h3⟩ := cntU_pos k hk
      exact ⟨i, by omega, h2, h3⟩
theorem putAll_spec (V : Nat → Value) : ∀ (l : List Oper) (k : Nat) (a : Act), (∀ (i : Nat) (o : Oper) (d : Tmp), l[i]? = some o → o.dst = some d → d < a.tmps.size) → (∀ (i j : Nat) (o o' : Oper) (d : Tmp), l[i]? = some o → l[j]? = some o' → o.dst = some d → o'.dst = some d → i = j) →
    (putAll V l k a).tmps.size = a.tmps.size ∧ (putAll V l k a).defers = a.defers ∧ (∀ t, (∀ (i : Nat) (o : Oper), l[i]? = some o → o.dst ≠ some t) → (putAll V l k a).tmps.getD t undef = a.tmps.getD t undef) ∧
    ∀ (i : Nat) (o : Oper) (d : Tmp), l[i]? = some o → o.dst = some d → (putAll V l k a).tmps.getD d undef = V (k + i)
  | [], k, a, _, _ => ⟨rfl, rfl, fun _ _ => rfl, fun i o d h => by simp at h⟩
  | o0 :: l, k, a, hs, hd => by
    obtain ⟨h1, h2, h3, h4⟩ := putAll_spec V l (k + 1) (a.put o0.dst (V k)) (fun i o d hi ho => by rw [(put_size _ _ _).1]; exact hs (i + 1) o d hi ho) (fun i j o o' d hi hj ho ho' => by have := hd (i + 1) (j + 1) o o' d hi hj ho ho'; omega)
    refine ⟨h1.trans (put_size _ _ _).1, h2.trans (put_size _ _ _).2, fun t ht => ?_, fun i o d hi ho => ?_⟩
    · refine (h3 t fun i o hi => ht (i + 1) o hi).trans ?_
      cases hd0 : o0.dst with
      | none => rfl
      | some d0 =>
        rw [put_getD _ _ _ _ (hs 0 o0 d0 rfl hd0), if_neg (fun e => ht 0 o0 rfl (by rw [hd0, e]))]
    · cases i with
      | zero =>
        injection hi with hi
        subst hi
        refine (h3 d fun j o' hj e => ?_).trans ?_
        · have := hd 0 (j + 1) o0 o' d rfl hj ho e
          omega
        · rw [ho, put_getD _ _ _ _ (hs 0 o0 d rfl ho), if_pos rfl]; rfl
      | succ i =>
        have := h4 i o d hi ho
        rw [show k + (i + 1) = k + 1 + i by omega]
        exact this
theorem act_ext {a b : Act} (hs : a.tmps.size = b.tmps.size) (hd : a.defers = b.defers) (h : ∀ t, a.tmps.getD t undef = b.tmps.getD t undef) : a = b := by
  obtain ⟨at_, ad⟩ := a
  obtain ⟨bt, bd⟩ := b
  simp only at hs hd h
  subst hd
  congr 1
  refine Array.ext hs fun i h1 h2 => ?_
  have := h i
  simpa [Array.getD_eq_getD_getElem?, h1, h2] using this
/-- All of the head has come up. -/
def headDone (l : List Oper) (n : Nat) : Array Bool := ((List.range l.length).map fun i => decide (i < n)).toArray
structure RelOK (l : List Oper) (n : Nat) (sp : List RS) (a0 : Act) (fl : List Nat := []) : Prop where
  le : n ≤ l.length
  op : ∀ i, i < n → ∃ o d, l[i]? = some o ∧ o.guard = none ∧ o.dst = some d ∧ d < a0.tmps.size ∧ (∀ e ∈ o.after, Region.binds .any e = true → e.on < i) ∧ (∀ j ∈ (RS.at_ sp i).D, ∃ e ∈ o.after, Region.binds .any e = true ∧ e.on = j)
  ne : ∀ i j, i < n → j < i → dstOf l j ≠ dstOf l i
  tail : ∀ t, n ≤ t → t < l.length → ∃ o, l[t]? = some o ∧ ∀ i, i < n → i ∉ fl → ∃ e ∈ o.after, Region.binds .any e = true ∧ e.on = i
theorem relOK {l : List Oper} {n : Nat} {sp : List RS} {a0 : Act} {fl : List Nat} {D : List (List Nat)} (hD : sp.map (·.D) = D) (h : relB .any l D n fl = true) (hs : ((List.range n).all fun i => match dstOf l i with | some d => decide (d < a0.tmps.size) | none => false) = true) : RelOK l n sp a0 fl := by
  subst hD
  simp only [relB, Bool.and_eq_true, decide_eq_true_eq] at h
  obtain ⟨⟨h1, h2⟩, h3⟩ := h
  rw [List.all_eq_true] at h2 h3 hs
  have hdD : ∀ i, ((sp.map (·.D)).getD i []) = (RS.at_ sp i).D := fun i => by
    unfold RS.at_
    rw [List.getD_eq_getElem?_getD, List.getD_eq_getElem?_getD, List.getElem?_map]
    cases sp[i]? <;> rfl
  have hop : ∀ i, i < n → ∃ o d, l[i]? = some o ∧ o.guard = none ∧ o.dst = some d ∧ d < a0.tmps.size ∧ (∀ e ∈ o.after, Region.binds .any e = true → e.on < i) ∧ (∀ j ∈ (RS.at_ sp i).D, ∃ e ∈ o.after, Region.binds .any e = true ∧ e.on = j) ∧ ∀ j, j < i → dstOf l j ≠ o.dst := by
    intro i hi
    have g := h2 i (List.mem_range.2 hi)
    have gs := hs i (List.mem_range.2 hi)
    cases ho : l[i]? with
    | none => rw [ho] at g; cases g
    | some o =>
      rw [ho] at g
      simp only [Bool.and_eq_true, Option.isNone_iff_eq_none, Option.isSome_iff_exists] at g
      obtain ⟨g1, ⟨d, g2⟩, g3, g4, g5⟩ := g
      have e1 : dstOf l i = some d := by unfold dstOf; rw [ho]; exact g2
      rw [e1] at gs
      rw [Array.all_eq_true_iff_forall_mem] at g3
      rw [hdD, List.all_eq_true] at g4
      rw [List.all_eq_true] at g5
      refine ⟨o, d, rfl, g1, g2, by simpa using gs, fun e he hb => ?_, fun j hj => ?_, fun j hj e => ?_⟩
      · have := g3 e he
        rw [hb] at this
        simpa using this
      · have := g4 j hj
        obtain ⟨e, he, hb⟩ := Array.any_eq_true'.1 this
        simp only [Bool.and_eq_true, beq_iff_eq] at hb
        exact ⟨e, he, hb.1, hb.2⟩
      · have := g5 j (List.mem_range.2 hj)
        rw [e] at this
        simp at this
  refine ⟨h1, fun i hi => ?_, fun i j hi hj e => ?_, fun t ht htl => ?_⟩
  · obtain ⟨o, d, q1, q2, q3, q4, q5, q6, -⟩ := hop i hi
    exact ⟨o, d, q1, q2, q3, q4, q5, q6⟩
  · obtain ⟨o, d, q1, q2, q3, q4, q5, q6, q7⟩ := hop i hi
    refine q7 j hj (e.trans ?_)
    unfold dstOf; rw [q1]; rfl
  · have g := h3 t (List.mem_range.2 htl)
    cases ho : l[t]? with
    | none => rw [ho] at g; simp at g; omega
    | some o =>
      rw [ho] at g
      simp only [Bool.or_eq_true, decide_eq_true_eq] at g
      rcases g with g | g
      · omega
      · rw [List.all_eq_true] at g
        refine ⟨o, rfl, fun i hi hf => ?_⟩
        have g := g i (List.mem_range.2 hi)
        rw [Bool.or_eq_true] at g
        rcases g with g | g
        · exact absurd (by simpa using g) hf
        obtain ⟨e, he, hb⟩ := Array.any_eq_true'.1 g
        simp only [Bool.and_eq_true, beq_iff_eq] at hb
        exact ⟨e, he, hb.1, hb.2⟩
theorem headDone_size (l : List Oper) (n : Nat) : (headDone l n).size = l.length := by simp [headDone]
theorem headDone_at (l : List Oper) (n : Nat) {i : Nat} (hi : i < l.length) : (headDone l n)[i]? = some (decide (i < n)) := by simp [headDone, hi]
/-- The law: the head in whatever order, each operation shown by itself; then the tail, all of the head having come up. -/
theorem wpAny_rel {l : List Oper} {n : Nat} {sp : List RS} {a0 : Act} {fl : List Nat} {C : World → Prop} {Q : Exit → Act → World → Prop} (hR : RelOK l n sp a0 fl) (hF : fl = [] ∨ (fltB .any l n fl = true ∧ ∀ c a d v w, Q (.panic c) (a.put d v) w → Q (.panic c) a w)) (hC : ∀ w w', C w → Ext w w' → C w')
    (hflt : ∀ i o, i ∈ fl → l[i]? = some o → ∀ (V τ : Nat → Value) (w : World), C w → (∀ j ∈ (RS.at_ sp i).D, factOf sp V w j) → (∀ j ∈ (RS.at_ sp i).D, ∀ d, dstOf l j = some d → τ d = V j) →
      (∀ t, (∀ j, j < n → dstOf l j ≠ some t) → τ t = a0.tmps.getD t undef) → ∃ v, (∀ w', (execOp (evalOf τ) o).run P w' = .ok (.value v) w') ∧ (RS.at_ sp i).ψ ((RS.at_ sp i).D.map V) v w)
    (hstep : ∀ i o, i < n → l[i]? = some o → ∀ (V τ : Nat → Value) (w : World), C w → (∀ j ∈ (RS.at_ sp i).D, factOf sp V w j) → (∀ j ∈ (RS.at_ sp i).D, ∀ d, dstOf l j = some d → τ d = V j) →
      (∀ t, (∀ j, j < n → dstOf l j ≠ some t) → τ t = a0.tmps.getD t undef) → Does P o (evalOf τ) w (fun v w' => Ext w w' ∧ (RS.at_ sp i).ψ ((RS.at_ sp i).D.map V) v w'))
    (hend : ∀ V w, C w → (∀ i, i < n → factOf sp V w i) → wpAny P .any l.toArray Q (l.length - n) (headDone l n) (putAll V (l.take n) 0 a0) w) :
    ∀ (m : Nat) (V : Nat → Value) (listed : Array Bool) (a : Act) (w : World), cntU listed n = m → RInv C l n sp a0 V listed a w → wpAny P .any l.toArray Q (m + (l.length - n)) listed a w := by
  intro m
  induction m with
  | zero =>
    intro V listed a w hm inv
    have hall := cntU_zero n hm
    have e1 : listed = headDone l n := by
      refine Array.ext (by rw [inv.size, headDone_size]) fun i h1 h2 => ?_
      have hil : i < l.length := by rw [← inv.size]; exact h1
      have e := headDone_at l n hil
      rw [Array.getElem?_eq_getElem h2] at e
      injection e with e
      rw [e]
      by_cases hi : i < n
      · have := hall i hi
        simp [h1] at this
        rw [this]; simp [hi]
      · have := inv.tail i (by omega) hil
        simp [h1] at this
        rw [this]; simp [hi]
    obtain ⟨p1, p2, p3, p4⟩ := putAll_spec V (l.take n) 0 a0 (fun i o d hi ho => by
      have hin : i < n := by have := (List.getElem?_eq_some_iff.1 hi).1; rw [List.length_take] at this; omega
      rw [List.getElem?_take, if_pos hin] at hi
      obtain ⟨o', d', q1, -, q3, q4, -⟩ := hR.op i hin
      rw [q1] at hi; injection hi with hi; subst hi
      rw [q3] at ho; injection ho with ho; subst ho
      exact q4) (fun i j o o' d hi hj ho ho' => by
      have hin : i < n := by have := (List.getElem?_eq_some_iff.1 hi).1; rw [List.length_take] at this; omega
      have hjn : j < n := by have := (List.getElem?_eq_some_iff.1 hj).1; rw [List.length_take] at this; omega
      rw [List.getElem?_take, if_pos hin] at hi
      rw [List.getElem?_take, if_pos hjn] at hj
      have e1 : dstOf l i = some d := by unfold dstOf; rw [hi]; exact ho
      have e2 : dstOf l j = some d := by unfold dstOf; rw [hj]; exact ho'
      rcases Nat.lt_trichotomy i j with h | h | h
      · exact absurd (e1.trans e2.symm) (hR.ne j i hjn h)
      · exact h
      · exact absurd (e2.trans e1.symm) (hR.ne i j hin h))
    have e2 : a = putAll V (l.take n) 0 a0 := by
      refine act_ext (inv.asz.trans p1.symm) (inv.adf.trans p2.symm) fun t => ?_
      by_cases ht : ∃ i, i < n ∧ dstOf l i = some t
      · obtain ⟨i, hi, hd⟩ := ht
        obtain ⟨o, d, q1, -, q3, -⟩ := hR.op i hi
        have ed : d = t := by unfold dstOf at hd; rw [q1] at hd; have : o.dst = some t := hd; rw [q3] at this; injection this
        subst ed
        have := p4 i o d (by rw [List.getElem?_take, if_pos hi]; exact q1) q3
        rw [Nat.zero_add] at this
        rw [this, inv.slot i d hi (hall i hi) hd]
      · rw [inv.other t fun i hi _ e => ht ⟨i, hi, e⟩, p3 t fun i o hi e => ?_]
        have hin : i < n := by have := (List.getElem?_eq_some_iff.1 hi).1; rw [List.length_take] at this; omega
        rw [List.getElem?_take, if_pos hin] at hi
        exact ht ⟨i, hin, by unfold dstOf; rw [hi]; exact e⟩
    rw [e1, e2, Nat.zero_add]
    exact hend V w inv.wld fun i hi => inv.fact i hi (hall i hi)
  | succ m ih =>
    intro V listed a w hm inv
    rw [show m + 1 + (l.length - n) = (m + (l.length - n)) + 1 by omega]
    have hlt : ∀ {i}, i < n → i < listed.size := fun {i} hi => by rw [inv.size]; exact Nat.lt_of_lt_of_le hi hR.le
    obtain ⟨i0, hi0, hu0, hp0⟩ := cntU_pos (listed := listed) n (by omega)
    have upd : ∀ (i : Nat) (o : Oper) (d : Tmp) (v : Value) (w' : World), l[i]? = some o → i < n → listed.getD i true = false → (∀ e ∈ o.after, Region.binds .any e = true → listed.getD e.on false = true) → o.dst = some d → d < a0.tmps.size →
        (∀ j ∈ (RS.at_ sp i).D, j < i) → Ext w w' → (RS.at_ sp i).ψ ((RS.at_ sp i).D.map V) v w' → RInv C l n sp a0 (fun k => if k = i then v else V k) (listed.setIfInBounds i true) (a.put (some d) v) w' := by
      intro i o d v w' ho hin hun hall q3 q4 hDi hx hψ
      have hdi : dstOf l i = some d := by unfold dstOf; rw [ho]; exact q3
      have hVD : ∀ j, (∀ k ∈ (RS.at_ sp j).D, k ≠ i) → (RS.at_ sp j).D.map (fun k => if k = i then v else V k) = (RS.at_ sp j).D.map V := fun j hj => List.map_congr_left fun k hk => if_neg (hj k hk)
      refine ⟨by simpa using inv.size, fun t ht htl => by rw [getD_set_ne true (by omega)]; exact inv.tail t ht htl, fun j oj hj hoj hjl e he hb => ?_, ?_, ?_, fun j d' hj hjl hdj => ?_, fun t ht => ?_, fun j hj hjl => ?_, hC _ _ inv.wld hx⟩
      · by_cases e' : i = j
        · subst e'
          rw [ho] at hoj; injection hoj with hoj; subst hoj
          exact getD_set_true (hall e he hb)
        · rw [getD_set_ne true e'] at hjl
          exact getD_set_true (inv.closed j oj hj hoj hjl e he hb)
      · exact (put_size _ _ _).1.trans inv.asz
      · exact (put_size _ _ _).2.trans inv.adf
      · rw [put_getD _ _ _ _ (by rw [inv.asz]; exact q4)]
        by_cases e' : i = j
        · subst e'
          rw [hdi] at hdj; injection hdj with hdj
          rw [if_pos hdj.symm, if_pos rfl]
        · rw [getD_set_ne true e'] at hjl
          rw [if_neg (fun h => by
            subst h
            rcases Nat.lt_trichotomy i j with h | h | h
            · exact hR.ne j i hj h (hdi.trans hdj.symm)
            · exact e' h
            · exact hR.ne i j hin h (hdj.trans hdi.symm)), if_neg (Ne.symm e')]
          exact inv.slot j d' hj hjl hdj
      · rw [put_getD _ _ _ _ (by rw [inv.asz]; exact q4), if_neg (fun h => ht i hin (getD_set_new hun) (by rw [hdi, h]))]
        exact inv.other t fun j hj hjl => by
          by_cases e' : i = j
          · subst e'; rw [hun] at hjl; cases hjl
          · exact ht j hj (by rw [getD_set_ne true e']; exact hjl)
      · by_cases e' : i = j
        · subst e'
          unfold factOf
          rw [hVD i (fun k hk => by have := hDi k hk; omega)]
          show (RS.at_ sp i).ψ _ (if i = i then v else V i) w'
          rw [if_pos rfl]
          exact hψ
        · rw [getD_set_ne true e'] at hjl
          unfold factOf
          show (RS.at_ sp j).ψ _ (if j = i then v else V j) w'
          rw [if_neg (Ne.symm e'), hVD j (fun k hk e2 => by
            subst e2
            obtain ⟨oj, dj, r1, r2, r3, r4, r5, r6⟩ := hR.op j hj
            obtain ⟨e, he, hb, hon⟩ := r6 k hk
            have := getD_t (inv.closed j oj hj r1 hjl e he hb)
            rw [hon, hun] at this
            cases this)]
          exact (RS.at_ sp j).mono _ _ _ _ (inv.fact j hj hjl) hx
    by_cases hfr : ∃ i, i ∈ fl ∧ i ∈ Region.ready .any l.toArray listed
    · obtain ⟨i, hfi, hi⟩ := hfr
      obtain ⟨hun, o, ho, hall⟩ := mem_ready.1 hi
      have ho : l[i]? = some o := by simpa using ho
      rcases hF with hF | ⟨hF, hQ⟩
      · rw [hF] at hfi; cases hfi
      simp only [fltB, Bool.and_eq_true] at hF
      obtain ⟨hns, hF⟩ := hF
      have g := List.all_eq_true.1 hF i hfi
      rw [ho] at g
      simp only [Bool.and_eq_true, decide_eq_true_eq] at g
      obtain ⟨hin, -, g2⟩ := g
      obtain ⟨o', d, q1, q2, q3, q4, q5, q6⟩ := hR.op i hin
      rw [ho] at q1; injection q1 with q1; subst q1
      have hDl : ∀ j ∈ (RS.at_ sp i).D, j < n ∧ listed.getD j true = true ∧ j < i := fun j hj => by
        obtain ⟨e, he, hb, hon⟩ := q6 j hj
        have h1 := q5 e he hb
        rw [hon] at h1
        exact ⟨by omega, hon ▸ getD_t (hall e he hb), h1⟩
      obtain ⟨v, hrun, hψ⟩ := hflt i o hfi ho V (fun t => a.tmps.getD t undef) w inv.wld (fun j hj => inv.fact j (hDl j hj).1 (hDl j hj).2.1) (fun j hj d' hd' => inv.slot j d' (hDl j hj).1 (hDl j hj).2.1 hd') (fun t ht => inv.other t fun j hj _ => ht j hj)
      rw [← eval_evalOf] at hrun
      refine wpAny_first (i := i) (oi := o) (v := v) (by simpa using ho) (Region.noSelect_spec hns) (fun c a w => hQ c a o.dst v w) (m + (l.length - n)) listed a w (fun j oj hoj hji hunj hno => ?_) hi (Or.inl ⟨by simp [Region.wanted, q2], hrun⟩) ?_
      · have hoj' : l[j]? = some oj := by simpa using hoj
        have g3 := List.all_eq_true.1 g2 j (List.mem_range.2 (List.getElem?_eq_some_iff.1 hoj').1)
        rw [hoj'] at g3
        simp only [Bool.or_eq_true, beq_iff_eq] at g3
        rcases g3 with g3 | g3 | g3 | g3
        · exact absurd g3 hji
        · obtain ⟨e, he, hb⟩ := Array.any_eq_true'.1 g3
          simp only [Bool.and_eq_true, beq_iff_eq] at hb
          have := getD_t (hall e he hb.1)
          rw [hb.2, hunj] at this
          cases this
        · obtain ⟨e, he, hb⟩ := Array.any_eq_true'.1 g3
          simp only [Bool.and_eq_true, beq_iff_eq] at hb
          exact absurd hb.2 (hno e he hb.1)
        · exact g3
      · rw [q3]
        exact ih _ _ _ w (by have := cntU_set hun n hin; omega) (upd i o d v w ho hin hun hall q3 q4 (fun j hj => (hDl j hj).2.2) (Ext.refl w) hψ)
    refine ⟨fun h => ?_, fun i hi => ?_⟩
    · exfalso
      obtain ⟨o, d, q1, q2, q3, q4, q5, q6⟩ := hR.op i0 hi0
      have : i0 ∈ Region.ready .any l.toArray listed := mem_ready.2 ⟨hu0, o, by simpa using q1, fun e he hb => getD_f (hlt (by have := q5 e he hb; omega)) (hp0 e.on (q5 e he hb))⟩
      rw [h] at this
      cases this
    · obtain ⟨hun, o, ho, hall⟩ := mem_ready.1 hi
      have ho : l[i]? = some o := by simpa using ho
      have hil : i < l.length := (List.getElem?_eq_some_iff.1 ho).1
      have hin : i < n := by
        rcases Nat.lt_or_ge i n with h | h
        · exact h
        · exfalso
          obtain ⟨o', q1, q2⟩ := hR.tail i h hil
          rw [ho] at q1; injection q1 with q1; subst q1
          have hno : ∀ k, k < n → k ∉ fl → listed.getD k true = true := fun k hk hkf => by
            obtain ⟨e, he, hb, hon⟩ := q2 k hk hkf
            have := getD_t (hall e he hb)
            rwa [hon] at this
          by_cases hif : i0 ∈ fl
          · rcases hF with hF | ⟨hF, -⟩
            · rw [hF] at hif; cases hif
            simp only [fltB, Bool.and_eq_true] at hF
            have g := List.all_eq_true.1 hF.2 i0 hif
            obtain ⟨o0, d0, r1, r2, r3, r4, r5, r6⟩ := hR.op i0 hi0
            rw [r1] at g
            simp only [Bool.and_eq_true, decide_eq_true_eq] at g
            have g1 := Array.all_eq_true_iff_forall_mem.1 g.2.1
            refine hfr ⟨i0, hif, mem_ready.2 ⟨hu0, o0, by simpa using r1, fun e he hb => ?_⟩⟩
            have g4 := g1 e he
            rw [hb] at g4
            have h5 := r5 e he hb
            exact getD_f (hlt (by omega)) (hno e.on (by omega) (by simpa using g4))
          · rw [hno i0 hi0 hif] at hu0
            cases hu0
      obtain ⟨o', d, q1, q2, q3, q4, q5, q6⟩ := hR.op i hin
      rw [ho] at q1; injection q1 with q1; subst q1
      have hdi : dstOf l i = some d := by unfold dstOf; rw [ho]; exact q3
      have hDl : ∀ j ∈ (RS.at_ sp i).D, j < n ∧ listed.getD j true = true ∧ j < i := fun j hj => by
        obtain ⟨e, he, hb, hon⟩ := q6 j hj
        have h1 := q5 e he hb
        rw [hon] at h1
        exact ⟨by omega, hon ▸ getD_t (hall e he hb), h1⟩
      unfold wpOp
      have ho' : l.toArray[i]? = some o := by simpa using ho
      have hw : Region.wanted o (yielded l.toArray a.tmps) = true := by simp [Region.wanted, q2]
      simp only [ho', hw, if_true]
      left
      have hs := hstep i o hin ho V (fun t => a.tmps.getD t undef) w inv.wld (fun j hj => inv.fact j (hDl j hj).1 (hDl j hj).2.1) (fun j hj d' hd' => inv.slot j d' (hDl j hj).1 (hDl j hj).2.1 hd') (fun t ht => inv.other t fun j hj _ => ht j hj)
      rw [← eval_evalOf] at hs
      refine hs.wp fun v w' ⟨hx, hψ⟩ => ?_
      rw [q3]
      exact ih _ _ _ w' (by have := cntU_set hun n hin; omega) (upd i o d v w' ho hin hun hall q3 q4 (fun j hj => (hDl j hj).2.2) hx hψ)
theorem cntU_none : ∀ (m k : Nat), k ≤ m → cntU (Array.replicate m false) k = k
  | _, 0, _ => rfl
  | m, k + 1, h => by
    rw [cntU, cntU_none m k (by omega), if_neg (by rw [getD_in (by simp; omega) (getD_replicate_false m k)]; simp)]
/-- What is to be shown of operation i. -/
def RStep (P : Program) (l : List Oper) (n : Nat) (sp : List RS) (a0 : Act) (C : World → Prop) (i : Nat) (o : Oper) : Prop :=
  ∀ (V τ : Nat → Value) (w : World), C w → (∀ j ∈ (RS.at_ sp i).D, factOf sp V w j) → (∀ j ∈ (RS.at_ sp i).D, ∀ d, dstOf l j = some d → τ d = V j) →
    (∀ t, ((List.range n).all fun j => dstOf l j != some t) = true → τ t = a0.tmps.getD t undef) → Does P o (evalOf τ) w (fun v w' => Ext w w' ∧ (RS.at_ sp i).ψ ((RS.at_ sp i).D.map V) v w')
def RSteps (P : Program) (l : List Oper) (n : Nat) (sp : List RS) (a0 : Act) (C : World → Prop) : List Oper → Nat → Prop
  | [], _ => True
  | o :: os, i => RStep P l n sp a0 C i o ∧ RSteps P l n sp a0 C os (i + 1)
theorem RSteps.get {l : List Oper} {n : Nat} {sp : List RS} {a0 : Act} {C : World → Prop} : ∀ (os : List Oper) (k : Nat), RSteps P l n sp a0 C os k → ∀ (i : Nat) (o : Oper), os[i]? = some o → RStep P l n sp a0 C (k + i) o
  | [], _, _, i, o, h => by simp at h
  | o0 :: os, k, h, 0, o, ho => by injection ho with ho; subst ho; exact h.1
  | o0 :: os, k, h, i + 1, o, ho => by
    have := RSteps.get os (k + 1) h.2 i o ho
    rwa [show k + 1 + i = k + (i + 1) by omega] at this
/-- A region that draws its order, by the words on its operations. -/
theorem wp_region_rel {id : Nat} {l : List Oper} {n : Nat} {sp : List RS} {a0 : Act} {w0 : World} {Q : Exit → Act → World → Prop} (C : World → Prop) (hm : P.follows .mixedOrders = true) (hR : RelOK l n sp a0) (hC : ∀ w w', C w → Ext w w' → C w') (h0 : C w0.drew)
    (hstep : RSteps P l n sp a0 C (l.take n) 0)
    (hend : ∀ V w, C w → (∀ i, i < n → factOf sp V w i) → wpAny P .any l.toArray Q (l.length - n) (headDone l n) (putAll V (l.take n) 0 a0) w) :
    (Code.region id l.toArray true).wp P Q a0 w0 := by
  refine wp_region_any hm ?_
  have hle := hR.le
  have := wpAny_rel hR (.inl rfl) hC (fun i o hi => by cases hi) (fun i o hi ho V τ w hc hf ht h0 => by
    have := RSteps.get _ _ hstep i o (by rw [List.getElem?_take, if_pos hi]; exact ho)
    rw [Nat.zero_add] at this
    exact this V τ w hc hf ht (fun t ht' => h0 t fun j hj e => by
      have := List.all_eq_true.1 ht' j (List.mem_range.2 hj)
      rw [e] at this
      simp at this)) hend n (fun _ => undef) (Array.replicate l.toArray.size false) a0 w0.drew (cntU_none _ _ (by simpa using hle))
    ⟨by simp, fun t _ htl => getD_in (by simpa using htl) (getD_replicate_false _ _), fun i o hi _ hl => (by rw [getD_in (by simp; omega) (getD_replicate_false _ _)] at hl; cases hl), rfl, rfl,
     fun i d hi hl => (by rw [getD_in (by simp; omega) (getD_replicate_false _ _)] at hl; cases hl), fun _ _ => rfl, fun i hi hl => (by rw [getD_in (by simp; omega) (getD_replicate_false _ _)] at hl; cases hl), h0⟩
  rw [show n + (l.length - n) = l.toArray.size by simp; omega] at this
  exact this
/-- What is to be shown of an operation that floats: it yields its value in whatever world. -/
def RFlts (P : Program) (l : List Oper) (n : Nat) (sp : List RS) (a0 : Act) (C : World → Prop) : List Nat → Prop
  | [] => True
  | i :: is => (∀ o, l[i]? = some o → ∀ (V τ : Nat → Value) (w : World), C w → (∀ j ∈ (RS.at_ sp i).D, factOf sp V w j) → (∀ j ∈ (RS.at_ sp i).D, ∀ d, dstOf l j = some d → τ d = V j) →
    (∀ t, ((List.range n).all fun j => dstOf l j != some t) = true → τ t = a0.tmps.getD t undef) → ∃ v, (∀ w', (execOp (evalOf τ) o).run P w' = .ok (.value v) w') ∧ (RS.at_ sp i).ψ ((RS.at_ sp i).D.map V) v w) ∧ RFlts P l n sp a0 C is
theorem RFlts.get {l : List Oper} {n : Nat} {sp : List RS} {a0 : Act} {C : World → Prop} : ∀ (fl : List Nat), RFlts P l n sp a0 C fl → ∀ i ∈ fl, ∀ o, l[i]? = some o → ∀ (V τ : Nat → Value) (w : World), C w → (∀ j ∈ (RS.at_ sp i).D, factOf sp V w j) → (∀ j ∈ (RS.at_ sp i).D, ∀ d, dstOf l j = some d → τ d = V j) →
    (∀ t, ((List.range n).all fun j => dstOf l j != some t) = true → τ t = a0.tmps.getD t undef) → ∃ v, (∀ w', (execOp (evalOf τ) o).run P w' = .ok (.value v) w') ∧ (RS.at_ sp i).ψ ((RS.at_ sp i).D.map V) v w
  | [], _, i, hi => by cases hi
  | k :: is, h, i, hi => by
    rcases List.mem_cons.1 hi with rfl | hi
    · exact h.1
    · exact RFlts.get is h.2 i hi
/-- The same with operations that may float past the tail's beginning. -/
theorem wp_region_relF {id : Nat} {l : List Oper} {n : Nat} {sp : List RS} {a0 : Act} {w0 : World} {fl : List Nat} {Q : Exit → Act → World → Prop} (C : World → Prop) (hm : P.follows .mixedOrders = true) (hR : RelOK l n sp a0 fl) (hFB : fltB .any l n fl = true) (hQ : ∀ c a d v w, Q (.panic c) (a.put d v) w → Q (.panic c) a w) (hC : ∀ w w', C w → Ext w w' → C w') (h0 : C w0.drew)
    (hflt : RFlts P l n sp a0 C fl)
    (hstep : RSteps P l n sp a0 C (l.take n) 0)
    (hend : ∀ V w, C w → (∀ i, i < n → factOf sp V w i) → wpAny P .any l.toArray Q (l.length - n) (headDone l n) (putAll V (l.take n) 0 a0) w) :
    (Code.region id l.toArray true).wp P Q a0 w0 := by
  refine wp_region_any hm ?_
  have hle := hR.le
  have := wpAny_rel hR (.inr ⟨hFB, hQ⟩) hC (fun i o hi ho V τ w hc hf ht h0 => RFlts.get fl hflt i hi o ho V τ w hc hf ht (fun t ht' => h0 t fun j hj e => by
      have := List.all_eq_true.1 ht' j (List.mem_range.2 hj)
      rw [e] at this
      simp at this)) (fun i o hi ho V τ w hc hf ht h0 => by
    have := RSteps.get _ _ hstep i o (by rw [List.getElem?_take, if_pos hi]; exact ho)
    rw [Nat.zero_add] at this
    exact this V τ w hc hf ht (fun t ht' => h0 t fun j hj e => by
      have := List.all_eq_true.1 ht' j (List.mem_range.2 hj)
      rw [e] at this
      simp at this)) hend n (fun _ => undef) (Array.replicate l.toArray.size false) a0 w0.drew (cntU_none _ _ (by simpa using hle))
    ⟨by simp, fun t _ htl => getD_in (by simpa using htl) (getD_replicate_false _ _), fun i o hi _ hl => (by rw [getD_in (by simp; omega) (getD_replicate_false _ _)] at hl; cases hl), rfl, rfl,
     fun i d hi hl => (by rw [getD_in (by simp; omega) (getD_replicate_false _ _)] at hl; cases hl), fun _ _ => rfl, fun i hi hl => (by rw [getD_in (by simp; omega) (getD_replicate_false _ _)] at hl; cases hl), h0⟩
  rw [show n + (l.length - n) = l.toArray.size by simp; omega] at this
  exact this
/-- A cell is written that holds no int: rows of ints read as they did. -/
theorem SInts.setNo {w : World} {v : Value} {xs : List Int} (h : SInts w v xs) {p : Addr} {x u : Value} (hp : w.cell? p = some x) (hx : ∀ n, x ≠ .int .i64 n) : SInts (w.setCell p u) v xs := by
  obtain ⟨A, c, h1, h2, h3, h4, h5⟩ := h
  refine ⟨A, c, h1, h2, h3, h4, fun h0 => ?_⟩
  obtain ⟨b, off, e, hb, hc⟩ := h5 h0
  refine ⟨b, off, e, by simpa [World.setCell] using hb, fun i hi => (World.cell?_setCell_other _ _ _ _ (fun e2 => ?_)).trans (hc i hi)⟩
  have := hc i hi
  rw [← e2, hp] at this
  injection this with this
  exact hx _ this
/-- The tail comes in one order. -/
def tailB (l : List Oper) (n : Nat) (ts : List Nat) : Bool := decide (l.length - n = ts.length) && (ts.all (fun k => decide (k < l.length)) && seqIx .any l.toArray ts (headDone l n))
theorem wpAny_tail {l : List Oper} {n : Nat} {ts : List Nat} {Q : Exit → Act → World → Prop} {a : Act} {w : World} (hT : tailB l n ts = true) (h : wpList P l.toArray Q (nths l ts) a w) : wpAny P .any l.toArray Q (l.length - n) (headDone l n) a w := by
  simp only [tailB, Bool.and_eq_true, decide_eq_true_eq] at hT
  obtain ⟨h1, h2, h3⟩ := hT
  rw [h1]
  exact wpAny_of_seqIx ts (nths l ts) _ a w (nths_eq l ts h2) h3 h
theorem wp_region_relT {id : Nat} {l : List Oper} {n : Nat} {sp : List RS} {a0 : Act} {w0 : World} {Q : Exit → Act → World → Prop} (ts : List Nat) (C : World → Prop) (hm : P.follows .mixedOrders = true) (hR : RelOK l n sp a0) (hT : tailB l n ts = true) (hC : ∀ w w', C w → Ext w w' → C w') (h0 : C w0.drew)
    (hstep : RSteps P l n sp a0 C (l.take n) 0)
    (hend : ∀ V w, C w → (∀ i, i < n → factOf sp V w i) → wpList P l.toArray Q (nths l ts) (putAll V (l.take n) 0 a0) w) :
    (Code.region id l.toArray true).wp P Q a0 w0 :=
  wp_region_rel C hm hR hC h0 hstep (fun V w hc hf => wpAny_tail hT (hend V w hc hf))
theorem wp_region_relFT {id : Nat} {l : List Oper} {n : Nat} {sp : List RS} {a0 : Act} {w0 : World} {fl : List Nat} {Q : Exit → Act → World → Prop} (ts : List Nat) (C : World → Prop) (hm : P.follows .mixedOrders = true) (hR : RelOK l n sp a0 fl) (hFB : fltB .any l n fl = true) (hQ : ∀ c a d v w, Q (.panic c) (a.put d v) w → Q (.panic c) a w)
    (hT : tailB l n ts = true) (hC : ∀ w w', C w → Ext w w' → C w') (h0 : C w0.drew) (hflt : RFlts P l n sp a0 C fl)
    (hstep : RSteps P l n sp a0 C (l.take n) 0)
    (hend : ∀ V w, C w → (∀ i, i < n → factOf sp V w i) → wpList P l.toArray Q (nths l ts) (putAll V (l.take n) 0 a0) w) :
    (Code.region id l.toArray true).wp P Q a0 w0 :=
  wp_region_relF C hm hR hFB hQ hC h0 hflt hstep (fun V w hc hf => wpAny_tail hT (hend V w hc hf))
end
end Go.Proofs.YtjpdebgejlfeaaaDoor
/- The law of Rel for a region that makes several things in memory: they are apart, in whatever order they came. -/
namespace Go.Proofs.YtjpdebgejlfeaaaDoor
open Go.RowKit

section
variable {P : Program}
/-- What the makers among the operations have yielded is old, and apart. -/
def PInv (mk : List Nat) (Old : Value → World → Prop) (Pd : Value → Value → Prop) (V : Nat → Value) (listed : Array Bool) (w : World) : Prop :=
  ∀ i ∈ mk, listed.getD i true = true → Old (V i) w ∧ ∀ j ∈ mk, j ≠ i → listed.getD j true = true → Pd (V i) (V j)
/-- The law: the head in whatever order, each operation shown by itself; then the tail, all of the head having come up. -/
theorem wpAny_relM (mk : List Nat) (Old : Value → World → Prop) (Pd : Value → Value → Prop) (hOld : ∀ v w w', Old v w → Ext w w' → Old v w') {l : List Oper} {n : Nat} {sp : List RS} {a0 : Act} {fl : List Nat} {C : World → Prop} {Q : Exit → Act → World → Prop} (hR : RelOK l n sp a0 fl) (hmf : ∀ i ∈ mk, i ∉ fl) (hF : fl = [] ∨ (fltB .any l n fl = true ∧ ∀ c a d v w, Q (.panic c) (a.put d v) w → Q (.panic c) a w)) (hC : ∀ w w', C w → Ext w w' → C w')
    (hflt : ∀ i o, i ∈ fl → l[i]? = some o → ∀ (V τ : Nat → Value) (w : World), C w → (∀ j ∈ (RS.at_ sp i).D, factOf sp V w j) → (∀ j ∈ (RS.at_ sp i).D, ∀ d, dstOf l j = some d → τ d = V j) →
      (∀ t, (∀ j, j < n → dstOf l j ≠ some t) → τ t = a0.tmps.getD t undef) → ∃ v, (∀ w', (execOp (evalOf τ) o).run P w' = .ok (.value v) w') ∧ (RS.at_ sp i).ψ ((RS.at_ sp i).D.map V) v w)
    (hstep : ∀ i o, i < n → l[i]? = some o → ∀ (V τ : Nat → Value) (w : World), C w → (∀ j ∈ (RS.at_ sp i).D, factOf sp V w j) → (∀ j ∈ (RS.at_ sp i).D, ∀ d, dstOf l j = some d → τ d = V j) →
      (∀ t, (∀ j, j < n → dstOf l j ≠ some t) → τ t = a0.tmps.getD t undef) → Does P o (evalOf τ) w (fun v w' => (Ext w w' ∧ (RS.at_ sp i).ψ ((RS.at_ sp i).D.map V) v w') ∧ (i ∈ mk → Old v w' ∧ ∀ u, Old u w → Pd v u ∧ Pd u v)))
    (hmn : ∀ i ∈ mk, i < n) (hend : ∀ V w, C w → (∀ i, i < n → factOf sp V w i) → (∀ i ∈ mk, ∀ j ∈ mk, j ≠ i → Pd (V i) (V j)) → wpAny P .any l.toArray Q (l.length - n) (headDone l n) (putAll V (l.take n) 0 a0) w) :
    ∀ (m : Nat) (V : Nat → Value) (listed : Array Bool) (a : Act) (w : World), cntU listed n = m → RInv C l n sp a0 V listed a w → PInv mk Old Pd V listed w → wpAny P .any l.toArray Q (m + (l.length - n)) listed a w := by
  intro m
  induction m with
  | zero =>
    intro V listed a w hm inv pinv
    have hall := cntU_zero n hm
    have e1 : listed = headDone l n := by
      refine Array.ext (by rw [inv.size, headDone_size]) fun i h1 h2 => ?_
      have hil : i < l.length := by rw [← inv.size]; exact h1
      have e := headDone_at l n hil
      rw [Array.getElem?_eq_getElem h2] at e
      injection e with e
      rw [e]
      by_cases hi : i < n
      · have := hall i hi
        simp [h1] at this
        rw [this]; simp [hi]
      · have := inv.tail i (by omega) hil
        simp [h1] at this
        rw [this]; simp [hi]
    obtain ⟨p1, p2, p3, p4⟩ := putAll_spec V (l.take n) 0 a0 (fun i o d hi ho => by
      have hin : i < n := by have := (List.getElem?_eq_some_iff.1 hi).1; rw [List.length_take] at this; omega
      rw [List.getElem?_take, if_pos hin] at hi
      obtain ⟨o', d', q1, -, q3, q4, -⟩ := hR.op i hin
      rw [q1] at hi; injection hi with hi; subst hi
      rw [q3] at ho; injection ho with ho; subst ho
      exact q4) (fun i j o o' d hi hj ho ho' => by
      have hin : i < n := by have := (List.getElem?_eq_some_iff.1 hi).1; rw [List.length_take] at this; omega
      have hjn : j < n := by have := (List.getElem?_eq_some_iff.1 hj).1; rw [List.length_take] at this; omega
      rw [List.getElem?_take, if_pos hin] at hi
      rw [List.getElem?_take, if_pos hjn] at hj
      have e1 : dstOf l i = some d := by unfold dstOf; rw [hi]; exact ho
      have e2 : dstOf l j = some d := by unfold dstOf; rw [hj]; exact ho'
      rcases Nat.lt_trichotomy i j with h | h | h
      · exact absurd (e1.trans e2.symm) (hR.ne j i hjn h)
      · exact h
      · exact absurd (e2.trans e1.symm) (hR.ne i j hin h))
    have e2 : a = putAll V (l.take n) 0 a0 := by
      refine act_ext (inv.asz.trans p1.symm) (inv.adf.trans p2.symm) fun t => ?_
      by_cases ht : ∃ i, i < n ∧ dstOf l i = some t
      · obtain ⟨i, hi, hd⟩ := ht
        obtain ⟨o, d, q1, -, q3, -⟩ := hR.op i hi
        have ed : d = t := by unfold dstOf at hd; rw [q1] at hd; have : o.dst = some t := hd; rw [q3] at this; injection this
        subst ed
        have := p4 i o d (by rw [List.getElem?_take, if_pos hi]; exact q1) q3
        rw [Nat.zero_add] at this
        rw [this, inv.slot i d hi (hall i hi) hd]
      · rw [inv.other t fun i hi _ e => ht ⟨i, hi, e⟩, p3 t fun i o hi e => ?_]
        have hin : i < n := by have := (List.getElem?_eq_some_iff.1 hi).1; rw [List.length_take] at this; omega
        rw [List.getElem?_take, if_pos hin] at hi
        exact ht ⟨i, hin, by unfold dstOf; rw [hi]; exact e⟩
    rw [e1, e2, Nat.zero_add]
    exact hend V w inv.wld (fun i hi => inv.fact i hi (hall i hi)) (fun i hi j hj hne => (pinv i hi (hall i (hmn i hi))).2 j hj hne (hall j (hmn j hj)))
  | succ m ih =>
    intro V listed a w hm inv pinv
    rw [show m + 1 + (l.length - n) = (m + (l.length - n)) + 1 by omega]
    have hlt : ∀ {i}, i < n → i < listed.size := fun {i} hi => by rw [inv.size]; exact Nat.lt_of_lt_of_le hi hR.le
    obtain ⟨i0, hi0, hu0, hp0⟩ := cntU_pos (listed := listed) n (by omega)
    have updP : ∀ (i : Nat) (v : Value) (w' : World), listed.getD i true = false → Ext w w' → (i ∈ mk → Old v w' ∧ ∀ u, Old u w → Pd v u ∧ Pd u v) → PInv mk Old Pd (fun k => if k = i then v else V k) (listed.setIfInBounds i true) w' := by
      intro i v w' hun hx hv j hj hjl
      have hl : ∀ k, k ≠ i → (listed.setIfInBounds i true).getD k true = true → listed.getD k true = true := fun k hk h => by rwa [getD_set_ne true (fun e => hk e.symm)] at h
      by_cases e : j = i
      · subst e
        obtain ⟨v1, v2⟩ := hv hj
        refine ⟨by show Old (if j = j then v else V j) w'; rw [if_pos rfl]; exact v1, fun k hk hne hkl => ?_⟩
        show Pd (if j = j then v else V j) (if k = j then v else V k)
        rw [if_pos rfl, if_neg hne]
        exact (v2 _ (pinv k hk (hl k hne hkl)).1).1
      · obtain ⟨p1, p2⟩ := pinv j hj (hl j e hjl)
        refine ⟨by show Old (if j = i then v else V j) w'; rw [if_neg e]; exact hOld _ _ _ p1 hx, fun k hk hne hkl => ?_⟩
        show Pd (if j = i then v else V j) (if k = i then v else V k)
        rw [if_neg e]
        by_cases e2 : k = i
        · subst e2
          rw [if_pos rfl]
          exact ((hv hk).2 _ p1).2
        · rw [if_neg e2]
          exact p2 k hk hne (hl k e2 hkl)
    have upd : ∀ (i : Nat) (o : Oper) (d : Tmp) (v : Value) (w' : World), l[i]? = some o → i < n → listed.getD i true = false → (∀ e ∈ o.after, Region.binds .any e = true → listed.getD e.on false = true) → o.dst = some d → d < a0.tmps.size →
        (∀ j ∈ (RS.at_ sp i).D, j < i) → Ext w w' → (RS.at_ sp i).ψ ((RS.at_ sp i).D.map V) v w' → RInv C l n sp a0 (fun k => if k = i then v else V k) (listed.setIfInBounds i true) (a.put (some d) v) w' := by
      intro i o d v w' ho hin hun hall q3 q4 hDi hx hψ
      have hdi : dstOf l i = some d := by unfold dstOf; rw [ho]; exact q3
      have hVD : ∀ j, (∀ k ∈ (RS.at_ sp j).D, k ≠ i) → (RS.at_ sp j).D.map (fun k => if k = i then v else V k) = (RS.at_ sp j).D.map V := fun j hj => List.map_congr_left fun k hk => if_neg (hj k hk)
      refine ⟨by simpa using inv.size, fun t ht htl => by rw [getD_set_ne true (by omega)]; exact inv.tail t ht htl, fun j oj hj hoj hjl e he hb => ?_, ?_, ?_, fun j d' hj hjl hdj => ?_, fun t ht => ?_, fun j hj hjl => ?_, hC _ _ inv.wld hx⟩
      · by_cases e' : i = j
        · subst e'
          rw [ho] at hoj; injection hoj with hoj; subst hoj
          exact getD_set_true (hall e he hb)
        · rw [getD_set_ne true e'] at hjl
          exact getD_set_true (inv.closed j oj hj hoj hjl e he hb)
      · exact (put_size _ _ _).1.trans inv.asz
      · exact (put_size _ _ _).2.trans inv.adf
      · rw [put_getD _ _ _ _ (by rw [inv.asz]; exact q4)]
        by_cases e' : i = j
        · subst e'
          rw [hdi] at hdj; injection hdj with hdj
          rw [if_pos hdj.symm, if_pos rfl]
        · rw [getD_set_ne true e'] at hjl
          rw [if_neg (fun h => by
            subst h
            rcases Nat.lt_trichotomy i j with h | h | h
            · exact hR.ne j i hj h (hdi.trans hdj.symm)
            · exact e' h
            · exact hR.ne i j hin h (hdj.trans hdi.symm)), if_neg (Ne.symm e')]
          exact inv.slot j d' hj hjl hdj
      · rw [put_getD _ _ _ _ (by rw [inv.asz]; exact q4), if_neg (fun h => ht i hin (getD_set_new hun) (by rw [hdi, h]))]
        exact inv.other t fun j hj hjl => by
          by_cases e' : i = j
          · subst e'; rw [hun] at hjl; cases hjl
          · exact ht j hj (by rw [getD_set_ne true e']; exact hjl)
      · by_cases e' : i = j
        · subst e'
          unfold factOf
          rw [hVD i (fun k hk => by have := hDi k hk; omega)]
          show (RS.at_ sp i).ψ _ (if i = i then v else V i) w'
          rw [if_pos rfl]
          exact hψ
        · rw [getD_set_ne true e'] at hjl
          unfold factOf
          show (RS.at_ sp j).ψ _ (if j = i then v else V j) w'
          rw [if_neg (Ne.symm e'), hVD j (fun k hk e2 => by
            subst e2
            obtain ⟨oj, dj, r1, r2, r3, r4, r5, r6⟩ := hR.op j hj
            obtain ⟨e, he, hb, hon⟩ := r6 k hk
            have := getD_t (inv.closed j oj hj r1 hjl e he hb)
            rw [hon, hun] at this
            cases this)]
          exact (RS.at_ sp j).mono _ _ _ _ (inv.fact j hj hjl) hx
    by_cases hfr : ∃ i, i ∈ fl ∧ i ∈ Region.ready .any l.toArray listed
    · obtain ⟨i, hfi, hi⟩ := hfr
      obtain ⟨hun, o, ho, hall⟩ := mem_ready.1 hi
      have ho : l[i]? = some o := by simpa using ho
      rcases hF with hF | ⟨hF, hQ⟩
      · rw [hF] at hfi; cases hfi
      simp only [fltB, Bool.and_eq_true] at hF
      obtain ⟨hns, hF⟩ := hF
      have g := List.all_eq_true.1 hF i hfi
      rw [ho] at g
      simp only [Bool.and_eq_true, decide_eq_true_eq] at g
      obtain ⟨hin, -, g2⟩ := g
      obtain ⟨o', d, q1, q2, q3, q4, q5, q6⟩ := hR.op i hin
      rw [ho] at q1; injection q1 with q1; subst q1
      have hDl : ∀ j ∈ (RS.at_ sp i).D, j < n ∧ listed.getD j true = true ∧ j < i := fun j hj => by
        obtain ⟨e, he, hb, hon⟩ := q6 j hj
        have h1 := q5 e he hb
        rw [hon] at h1
        exact ⟨by omega, hon ▸ getD_t (hall e he hb), h1⟩
      obtain ⟨v, hrun, hψ⟩ := hflt i o hfi ho V (fun t => a.tmps.getD t undef) w inv.wld (fun j hj => inv.fact j (hDl j hj).1 (hDl j hj).2.1) (fun j hj d' hd' => inv.slot j d' (hDl j hj).1 (hDl j hj).2.1 hd') (fun t ht => inv.other t fun j hj _ => ht j hj)
      rw [← eval_evalOf] at hrun
      refine wpAny_first (i := i) (oi := o) (v := v) (by simpa using ho) (Region.noSelect_spec hns) (fun c a w => hQ c a o.dst v w) (m + (l.length - n)) listed a w (fun j oj hoj hji hunj hno => ?_) hi (Or.inl ⟨by simp [Region.wanted, q2], hrun⟩) ?_
      · have hoj' : l[j]? = some oj := by simpa using hoj
        have g3 := List.all_eq_true.1 g2 j (List.mem_range.2 (List.getElem?_eq_some_iff.1 hoj').1)
        rw [hoj'] at g3
        simp only [Bool.or_eq_true, beq_iff_eq] at g3
        rcases g3 with g3 | g3 | g3 | g3
        · exact absurd g3 hji
        · obtain ⟨e, he, hb⟩ := Array.any_eq_true'.1 g3
          simp only [Bool.and_eq_true, beq_iff_eq] at hb
          have := getD_t (hall e he hb.1)
          rw [hb.2, hunj] at this
          cases this
        · obtain ⟨e, he, hb⟩ := Array.any_eq_true'.1 g3
          simp only [Bool.and_eq_true, beq_iff_eq] at hb
          exact absurd hb.2 (hno e he hb.1)
        · exact g3
      · rw [q3]
        exact ih _ _ _ w (by have := cntU_set hun n hin; omega) (upd i o d v w ho hin hun hall q3 q4 (fun j hj => (hDl j hj).2.2) (Ext.refl w) hψ) (updP i v w hun (Ext.refl w) (fun h => absurd hfi (hmf i h)))
    refine ⟨fun h => ?_, fun i hi => ?_⟩
    · exfalso
      obtain ⟨o, d, q1, q2, q3, q4, q5, q6⟩ := hR.op i0 hi0
      have : i0 ∈ Region.ready .any l.toArray listed := mem_ready.2 ⟨hu0, o, by simpa using q1, fun e he hb => getD_f (hlt (by have := q5 e he hb; omega)) (hp0 e.on (q5 e he hb))⟩
      rw [h] at this
      cases this
    · obtain ⟨hun, o, ho, hall⟩ := mem_ready.1 hi
      have ho : l[i]? = some o := by simpa using ho
      have hil : i < l.length := (List.getElem?_eq_some_iff.1 ho).1
      have hin : i < n := by
        rcases Nat.lt_or_ge i n with h | h
        · exact h
        · exfalso
          obtain ⟨o', q1, q2⟩ := hR.tail i h hil
          rw [ho] at q1; injection q1 with q1; subst q1
          have hno : ∀ k, k < n → k ∉ fl → listed.getD k true = true := fun k hk hkf => by
            obtain ⟨e, he, hb, hon⟩ := q2 k hk hkf
            have := getD_t (hall e he hb)
            rwa [hon] at this
          by_cases hif : i0 ∈ fl
          · rcases hF with hF | ⟨hF, -⟩
            · rw [hF] at hif; cases hif
            simp only [fltB, Bool.and_eq_true] at hF
            have g := List.all_eq_true.1 hF.2 i0 hif
            obtain ⟨o0, d0, r1, r2, r3, r4, r5, r6⟩ := hR.op i0 hi0
            rw [r1] at g
            simp only [Bool.and_eq_true, decide_eq_true_eq] at g
            have g1 := Array.all_eq_true_iff_forall_mem.1 g.2.1
            refine hfr ⟨i0, hif, mem_ready.2 ⟨hu0, o0, by simpa using r1, fun e he hb => ?_⟩⟩
            have g4 := g1 e he
            rw [hb] at g4
            have h5 := r5 e he hb
            exact getD_f (hlt (by omega)) (hno e.on (by omega) (by simpa using g4))
          · rw [hno i0 hi0 hif] at hu0
            cases hu0
      obtain ⟨o', d, q1, q2, q3, q4, q5, q6⟩ := hR.op i hin
      rw [ho] at q1; injection q1 with q1; subst q1
      have hdi : dstOf l i = some d := by unfold dstOf; rw [ho]; exact q3
      have hDl : ∀ j ∈ (RS.at_ sp i).D, j < n ∧ listed.getD j true = true ∧ j < i := fun j hj => by
        obtain ⟨e, he, hb, hon⟩ := q6 j hj
        have h1 := q5 e he hb
        rw [hon] at h1
        exact ⟨by omega, hon ▸ getD_t (hall e he hb), h1⟩
      unfold wpOp
      have ho' : l.toArray[i]? = some o := by simpa using ho
      have hw : Region.wanted o (yielded l.toArray a.tmps) = true := by simp [Region.wanted, q2]
      simp only [ho', hw, if_true]
      left
      have hs := hstep i o hin ho V (fun t => a.tmps.getD t undef) w inv.wld (fun j hj => inv.fact j (hDl j hj).1 (hDl j hj).2.1) (fun j hj d' hd' => inv.slot j d' (hDl j hj).1 (hDl j hj).2.1 hd') (fun t ht => inv.other t fun j hj _ => ht j hj)
      rw [← eval_evalOf] at hs
      refine hs.wp fun v w' ⟨⟨hx, hψ⟩, hmk⟩ => ?_
      rw [q3]
      exact ih _ _ _ w' (by have := cntU_set hun n hin; omega) (upd i o d v w' ho hin hun hall q3 q4 (fun j hj => (hDl j hj).2.2) hx hψ) (updP i v w' hun hx hmk)
/-- What is to be shown of operation i. -/
def RStepM (mk : List Nat) (Old : Value → World → Prop) (Pd : Value → Value → Prop) (P : Program) (l : List Oper) (n : Nat) (sp : List RS) (a0 : Act) (C : World → Prop) (i : Nat) (o : Oper) : Prop :=
  ∀ (V τ : Nat → Value) (w : World), C w → (∀ j ∈ (RS.at_ sp i).D, factOf sp V w j) → (∀ j ∈ (RS.at_ sp i).D, ∀ d, dstOf l j = some d → τ d = V j) →
    (∀ t, ((List.range n).all fun j => dstOf l j != some t) = true → τ t = a0.tmps.getD t undef) → Does P o (evalOf τ) w (fun v w' => (Ext w w' ∧ (RS.at_ sp i).ψ ((RS.at_ sp i).D.map V) v w') ∧ (i ∈ mk → Old v w' ∧ ∀ u, Old u w → Pd v u ∧ Pd u v))
def RStepsM (mk : List Nat) (Old : Value → World → Prop) (Pd : Value → Value → Prop) (P : Program) (l : List Oper) (n : Nat) (sp : List RS) (a0 : Act) (C : World → Prop) : List Oper → Nat → Prop
  | [], _ => True
  | o :: os, i => RStepM mk Old Pd P l n sp a0 C i o ∧ RStepsM mk Old Pd P l n sp a0 C os (i + 1)
theorem RStepsM.get {mk : List Nat} {Old : Value → World → Prop} {Pd : Value → Value → Prop} {l : List Oper} {n : Nat} {sp : List RS} {a0 : Act} {C : World → Prop} : ∀ (os : List Oper) (k : Nat), RStepsM mk Old Pd P l n sp a0 C os k → ∀ (i : Nat) (o : Oper), os[i]? = some o → RStepM mk Old Pd P l n sp a0 C (k + i) o
  | [], _, _, i, o, h => by simp at h
  | o0 :: os, k, h, 0, o, ho => by injection ho with ho; subst ho; exact h.1
  | o0 :: os, k, h, i + 1, o, ho => by
    have := RStepsM.get os (k + 1) h.2 i o ho
    rwa [show k + 1 + i = k + (i + 1) by omega] at this
/-- A region that draws its order, by the words on its operations. -/
theorem wp_region_relM (mk : List Nat) (Old : Value → World → Prop) (Pd : Value → Value → Prop) (hOld : ∀ v w w', Old v w → Ext w w' → Old v w') {id : Nat} {l : List Oper} {n : Nat} {sp : List RS} {a0 : Act} {w0 : World} {Q : Exit → Act → World → Prop} (C : World → Prop) (hm : P.follows .mixedOrders = true) (hR : RelOK l n sp a0) (hC : ∀ w w', C w → Ext w w' → C w') (h0 : C w0.drew)
    (hmn : ∀ i ∈ mk, i < n) (hstep : RStepsM mk Old Pd P l n sp a0 C (l.take n) 0)
    (hend : ∀ V w, C w → (∀ i, i < n → factOf sp V w i) → (∀ i ∈ mk, ∀ j ∈ mk, j ≠ i → Pd (V i) (V j)) → wpAny P .any l.toArray Q (l.length - n) (headDone l n) (putAll V (l.take n) 0 a0) w) :
    (Code.region id l.toArray true).wp P Q a0 w0 := by
  refine wp_region_any hm ?_
  have hle := hR.le
  have := wpAny_relM mk Old Pd hOld hR (fun _ _ h => by cases h) (.inl rfl) hC (fun i o hi => by cases hi) (fun i o hi ho V τ w hc hf ht h0 => by
    have := RStepsM.get _ _ hstep i o (by rw [List.getElem?_take, if_pos hi]; exact ho)
    rw [Nat.zero_add] at this
    exact this V τ w hc hf ht (fun t ht' => h0 t fun j hj e => by
      have := List.all_eq_true.1 ht' j (List.mem_range.2 hj)
      rw [e] at this
      simp at this)) hmn hend n (fun _ => undef) (Array.replicate l.toArray.size false) a0 w0.drew (cntU_none _ _ (by simpa using hle))
    ⟨by simp, fun t _ htl => getD_in (by simpa using htl) (getD_replicate_false _ _), fun i o hi _ hl => (by rw [getD_in (by simp; omega) (getD_replicate_false _ _)] at hl; cases hl), rfl, rfl,
     fun i d hi hl => (by rw [getD_in (by simp; omega) (getD_replicate_false _ _)] at hl; cases hl), fun _ _ => rfl, fun i hi hl => (by rw [getD_in (by simp; omega) (getD_replicate_false _ _)] at hl; cases hl), h0⟩
    (fun i hi hl => by rw [getD_in (by have := hmn i hi; simp; omega) (getD_replicate_false _ _)] at hl; cases hl)
  rw [show n + (l.length - n) = l.toArray.size by simp; omega] at this
  exact this
theorem wp_region_relMT (mk : List Nat) (Old : Value → World → Prop) (Pd : Value → Value → Prop) (hOld : ∀ v w w', Old v w → Ext w w' → Old v w') {id : Nat} {l : List Oper} {n : Nat} {sp : List RS} {a0 : Act} {w0 : World} {Q : Exit → Act → World → Prop} (ts : List Nat) (C : World → Prop) (hm : P.follows .mixedOrders = true) (hR : RelOK l n sp a0) (hT : tailB l n ts = true) (hC : ∀ w w', C w → Ext w w' → C w') (h0 : C w0.drew) (hmn : ∀ i ∈ mk, i < n)
    (hstep : RStepsM mk Old Pd P l n sp a0 C (l.take n) 0)
    (hend : ∀ V w, C w → (∀ i, i < n → factOf sp V w i) → (∀ i ∈ mk, ∀ j ∈ mk, j ≠ i → Pd (V i) (V j)) → wpList P l.toArray Q (nths l ts) (putAll V (l.take n) 0 a0) w) :
    (Code.region id l.toArray true).wp P Q a0 w0 :=
  wp_region_relM mk Old Pd hOld C hm hR hC h0 hmn hstep (fun V w hc hf hp => wpAny_tail hT (hend V w hc hf hp))
/-- A make of n elements. -/
theorem Does.make {o : Oper} {ρ : Operand → Value} {w : World} {R : Value → World → Prop} (l c : Operand) (t : TypeId) (hop : o.op = Op.makeSlice t l c)
    (e : TypeId) (z : Value) (size bytes : Nat) (ht : P.underlying t = some (.slice e)) (hinfo : (P.info? e).map (fun i => (i.zero, i.size, i.bytes)) = some (some z, size, bytes))
    (kl kc : IntKind) (n : Nat) (hl : ρ l = .int kl (n : Int)) (hc : ρ c = .int kc (n : Int)) (hbytes : bytes * n ≤ 281474976710656) (h63 : n ≤ 9223372036854775807)
    (f : Nat → Value) (hf : ∀ i, i < n * size → z.cells[i % z.cells.size]! = f i)
    (hK : ∀ w', w'.rowIs w.heap.size e (n * size) f → w'.heap.size = w.heap.size + 1 → Ext w w' → R (.slice (some ⟨w.heap.size, 0, none⟩) n n) w') : Does P o ρ w R := by
  obtain ⟨i, hi, hzz⟩ := Option.map_eq_some_iff.1 hinfo
  simp only [Prod.mk.injEq] at hzz
  obtain ⟨hz, rfl, rfl⟩ := hzz
  have hb' : (i.bytes : Int) * (n : Int) ≤ 281474976710656 := by
    have h : ((i.bytes * n : Nat) : Int) ≤ 281474976710656 := by omega
    rwa [Int.natCast_mul] at h
  have hrun := run_make (P := P) w t e i z ht hi hz kl kc n n (by omega) (Int.le_refl _) hb' (by omega)
  simp only [Int.toNat_natCast] at hrun
  have hrow : (w.alloc (.cells (madeCells z.cells (n * i.size)) e)).rowIs w.heap.size e (n * i.size) f := by
    have h1 := World.rowIs_alloc w (madeCells z.cells (n * i.size)) e f (fun j hj => by
      rw [size_madeCells] at hj
      simp [madeCells, hj, ← hf j hj])
    rwa [size_madeCells] at h1
  refine Does.val (w' := w.alloc (.cells (madeCells z.cells (n * i.size)) e)) (v := .slice (some ⟨w.heap.size, 0, none⟩) n n) ?_ (hK _ hrow (by simp) ((Ext.refl w).alloc _))
  simp [execOp, hop, hl, hc, hrun, Result.andThen]
/-- A slice at the head of a block. -/
def OldS (v : Value) (w : World) : Prop := ∃ b n, v = .slice (some ⟨b, 0, none⟩) n n ∧ b < w.heap.size
theorem OldS.ext (v : Value) (w w' : World) (h : OldS v w) (hx : Ext w w') : OldS v w' := by
  obtain ⟨b, n, h1, h2⟩ := h
  exact ⟨b, n, h1, Nat.lt_of_lt_of_le h2 hx.size⟩
def ApS (u v : Value) : Prop := ∀ b n m b' n' m', u = .slice (some ⟨b, 0, none⟩) n m → v = .slice (some ⟨b', 0, none⟩) n' m' → b ≠ b'
theorem OldS.new {u : Value} {w : World} (h : OldS u w) (n m : Nat) : ApS (.slice (some ⟨w.heap.size, 0, none⟩) n m) u ∧ ApS u (.slice (some ⟨w.heap.size, 0, none⟩) n m) := by
  obtain ⟨b, k, rfl, hb⟩ := h
  refine ⟨fun b1 n1 m1 b2 n2 m2 e1 e2 => ?_, fun b1 n1 m1 b2 n2 m2 e1 e2 => ?_⟩
  · injection e1 with e1; injection e1 with e1; injection e1 with e1
    injection e2 with e2; injection e2 with e2; injection e2 with e2
    omega
  · injection e1 with e1; injection e1 with e1; injection e1 with e1
    injection e2 with e2; injection e2 with e2; injection e2 with e2
    omega
end
end Go.Proofs.YtjpdebgejlfeaaaDoor
/- A region that draws its order, some of whose operations stand behind one guard that has been decided (RelB.tpl's law, with a guard). -/
namespace Go.Proofs.YtjpdebgejlfeaaaDoor
open Go.RowKit

section
variable {P : Program}
def relBG (md : Region.Mode) (l : List Oper) (D : List (List Nat)) (n : Nat) (g0 : Nat) (b0 : Bool) : Bool :=
  decide (n ≤ l.length) && ((List.range n).all fun i => match l[i]? with
    | none => false
    | some o => (o.guard.isNone || (o.guard == some (g0, b0) && (D.getD i []).contains g0)) && (o.dst.isSome && (o.after.all (fun e => !Region.binds md e || decide (e.on < i)) && (((D.getD i []).all fun j => o.after.any fun e => Region.binds md e && e.on == j) &&
        (List.range i).all fun j => dstOf l j != o.dst)))) &&
  (List.range l.length).all fun t => decide (t < n) || match l[t]? with
    | none => false
    | some o => (List.range n).all fun i => o.after.any fun e => Region.binds md e && e.on == i
structure RelOKG (l : List Oper) (n : Nat) (sp : List RS) (a0 : Act) (g0 : Nat) (b0 : Bool) : Prop where
  le : n ≤ l.length
  op : ∀ i, i < n → ∃ o d, l[i]? = some o ∧ (o.guard = none ∨ (o.guard = some (g0, b0) ∧ g0 ∈ (RS.at_ sp i).D)) ∧ o.dst = some d ∧ d < a0.tmps.size ∧ (∀ e ∈ o.after, Region.binds .any e = true → e.on < i) ∧ (∀ j ∈ (RS.at_ sp i).D, ∃ e ∈ o.after, Region.binds .any e = true ∧ e.on = j)
  ne : ∀ i j, i < n → j < i → dstOf l j ≠ dstOf l i
  tail : ∀ t, n ≤ t → t < l.length → ∃ o, l[t]? = some o ∧ ∀ i, i < n → ∃ e ∈ o.after, Region.binds .any e = true ∧ e.on = i
theorem relOKG {l : List Oper} {n : Nat} {sp : List RS} {a0 : Act} {g0 : Nat} {b0 : Bool} {D : List (List Nat)} (hD : sp.map (·.D) = D) (h : relBG .any l D n g0 b0 = true) (hs : ((List.range n).all fun i => match dstOf l i with | some d => decide (d < a0.tmps.size) | none => false) = true) : RelOKG l n sp a0 g0 b0 := by
  subst hD
  simp only [relBG, Bool.and_eq_true, decide_eq_true_eq] at h
  obtain ⟨⟨h1, h2⟩, h3⟩ := h
  rw [List.all_eq_true] at h2 h3 hs
  have hdD : ∀ i, ((sp.map (·.D)).getD i []) = (RS.at_ sp i).D := fun i => by
    unfold RS.at_
    rw [List.getD_eq_getElem?_getD, List.getD_eq_getElem?_getD, List.getElem?_map]
    cases sp[i]? <;> rfl
  have hop : ∀ i, i < n → ∃ o d, l[i]? = some o ∧ (o.guard = none ∨ (o.guard = some (g0, b0) ∧ g0 ∈ (RS.at_ sp i).D)) ∧ o.dst = some d ∧ d < a0.tmps.size ∧ (∀ e ∈ o.after, Region.binds .any e = true → e.on < i) ∧ (∀ j ∈ (RS.at_ sp i).D, ∃ e ∈ o.after, Region.binds .any e = true ∧ e.on = j) ∧ ∀ j, j < i → dstOf l j ≠ o.dst := by
    intro i hi
    have g := h2 i (List.mem_range.2 hi)
    have gs := hs i (List.mem_range.2 hi)
    cases ho : l[i]? with
    | none => rw [ho] at g; cases g
    | some o =>
      rw [ho] at g
      simp only [Bool.and_eq_true, Bool.or_eq_true, beq_iff_eq, Option.isNone_iff_eq_none, Option.isSome_iff_exists] at g
      obtain ⟨g1, ⟨d, g2⟩, g3, g4, g5⟩ := g
      have e1 : dstOf l i = some d := by unfold dstOf; rw [ho]; exact g2
      rw [e1] at gs
      rw [Array.all_eq_true_iff_forall_mem] at g3
      rw [hdD, List.all_eq_true] at g4
      rw [List.all_eq_true] at g5
      refine ⟨o, d, rfl, g1.imp id (fun x => ⟨x.1, by rw [← hdD]; simpa using x.2⟩), g2, by simpa using gs, fun e he hb => ?_, fun j hj => ?_, fun j hj e => ?_⟩
      · have := g3 e he
        rw [hb] at this
        simpa using this
      · have := g4 j hj
        obtain ⟨e, he, hb⟩ := Array.any_eq_true'.1 this
        simp only [Bool.and_eq_true, beq_iff_eq] at hb
        exact ⟨e, he, hb.1, hb.2⟩
      · have := g5 j (List.mem_range.2 hj)
        rw [e] at this
        simp at this
  refine ⟨h1, fun i hi => ?_, fun i j hi hj e => ?_, fun t ht htl => ?_⟩
  · obtain ⟨o, d, q1, q2, q3, q4, q5, q6, -⟩ := hop i hi
    exact ⟨o, d, q1, q2, q3, q4, q5, q6⟩
  · obtain ⟨o, d, q1, q2, q3, q4, q5, q6, q7⟩ := hop i hi
    refine q7 j hj (e.trans ?_)
    unfold dstOf; rw [q1]; rfl
  · have g := h3 t (List.mem_range.2 htl)
    cases ho : l[t]? with
    | none => rw [ho] at g; simp at g; omega
    | some o =>
      rw [ho] at g
      simp only [Bool.or_eq_true, decide_eq_true_eq] at g
      rcases g with g | g
      · omega
      · rw [List.all_eq_true] at g
        refine ⟨o, rfl, fun i hi => ?_⟩
        have g := g i (List.mem_range.2 hi)
        obtain ⟨e, he, hb⟩ := Array.any_eq_true'.1 g
        simp only [Bool.and_eq_true, beq_iff_eq] at hb
        exact ⟨e, he, hb.1, hb.2⟩
theorem wpAny_relG {l : List Oper} {n : Nat} {sp : List RS} {a0 : Act} {g0 : Nat} {b0 : Bool} {C : World → Prop} {Q : Exit → Act → World → Prop} (hR : RelOKG l n sp a0 g0 b0) (hg0 : ∀ V w, factOf sp V w g0 → V g0 = .bool b0) (hC : ∀ w w', C w → Ext w w' → C w')
    (hstep : ∀ i o, i < n → l[i]? = some o → ∀ (V τ : Nat → Value) (w : World), C w → (∀ j ∈ (RS.at_ sp i).D, factOf sp V w j) → (∀ j ∈ (RS.at_ sp i).D, ∀ d, dstOf l j = some d → τ d = V j) →
      (∀ t, (∀ j, j < n → dstOf l j ≠ some t) → τ t = a0.tmps.getD t undef) → Does P o (evalOf τ) w (fun v w' => Ext w w' ∧ (RS.at_ sp i).ψ ((RS.at_ sp i).D.map V) v w'))
    (hend : ∀ V w, C w → (∀ i, i < n → factOf sp V w i) → wpAny P .any l.toArray Q (l.length - n) (headDone l n) (putAll V (l.take n) 0 a0) w) :
    ∀ (m : Nat) (V : Nat → Value) (listed : Array Bool) (a : Act) (w : World), cntU listed n = m → RInv C l n sp a0 V listed a w → wpAny P .any l.toArray Q (m + (l.length - n)) listed a w := by
  intro m
  induction m with
  | zero =>
    intro V listed a w hm inv
    have hall := cntU_zero n hm
    have e1 : listed = headDone l n := by
      refine Array.ext (by rw [inv.size, headDone_size]) fun i h1 h2 => ?_
      have hil : i < l.length := by rw [← inv.size]; exact h1
      have e := headDone_at l n hil
      rw [Array.getElem?_eq_getElem h2] at e
      injection e with e
      rw [e]
      by_cases hi : i < n
      · have := hall i hi
        simp [h1] at this
        rw [this]; simp [hi]
      · have := inv.tail i (by omega) hil
        simp [h1] at this
        rw [this]; simp [hi]
    obtain ⟨p1, p2, p3, p4⟩ := putAll_spec V (l.take n) 0 a0 (fun i o d hi ho => by
      have hin : i < n := by have := (List.getElem?_eq_some_iff.1 hi).1; rw [List.length_take] at this; omega
      rw [List.getElem?_take, if_pos hin] at hi
      obtain ⟨o', d', q1, -, q3, q4, -⟩ := hR.op i hin
      rw [q1] at hi; injection hi with hi; subst hi
      rw [q3] at ho; injection ho with ho; subst ho
      exact q4) (fun i j o o' d hi hj ho ho' => by
      have hin : i < n := by have := (List.getElem?_eq_some_iff.1 hi).1; rw [List.length_take] at this; omega
      have hjn : j < n := by have := (List.getElem?_eq_some_iff.1 hj).1; rw [List.length_take] at this; omega
      rw [List.getElem?_take, if_pos hin] at hi
      rw [List.getElem?_take, if_pos hjn] at hj
      have e1 : dstOf l i = some d := by unfold dstOf; rw [hi]; exact ho
      have e2 : dstOf l j = some d := by unfold dstOf; rw [hj]; exact ho'
      rcases Nat.lt_trichotomy i j with h | h | h
      · exact absurd (e1.trans e2.symm) (hR.ne j i hjn h)
      · exact h
      · exact absurd (e2.trans e1.symm) (hR.ne i j hin h))
    have e2 : a = putAll V (l.take n) 0 a0 := by
      refine act_ext (inv.asz.trans p1.symm) (inv.adf.trans p2.symm) fun t => ?_
      by_cases ht : ∃ i, i < n ∧ dstOf l i = some t
      · obtain ⟨i, hi, hd⟩ := ht
        obtain ⟨o, d, q1, -, q3, -⟩ := hR.op i hi
        have ed : d = t := by unfold dstOf at hd; rw [q1] at hd; have : o.dst = some t := hd; rw [q3] at this; injection this
        subst ed
        have := p4 i o d (by rw [List.getElem?_take, if_pos hi]; exact q1) q3
        rw [Nat.zero_add] at this
        rw [this, inv.slot i d hi (hall i hi) hd]
      · rw [inv.other t fun i hi _ e => ht ⟨i, hi, e⟩, p3 t fun i o hi e => ?_]
        have hin : i < n := by have := (List.getElem?_eq_some_iff.1 hi).1; rw [List.length_take] at this; omega
        rw [List.getElem?_take, if_pos hin] at hi
        exact ht ⟨i, hin, by unfold dstOf; rw [hi]; exact e⟩
    rw [e1, e2, Nat.zero_add]
    exact hend V w inv.wld fun i hi => inv.fact i hi (hall i hi)
  | succ m ih =>
    intro V listed a w hm inv
    rw [show m + 1 + (l.length - n) = (m + (l.length - n)) + 1 by omega]
    have hlt : ∀ {i}, i < n → i < listed.size := fun {i} hi => by rw [inv.size]; exact Nat.lt_of_lt_of_le hi hR.le
    obtain ⟨i0, hi0, hu0, hp0⟩ := cntU_pos (listed := listed) n (by omega)
    have upd : ∀ (i : Nat) (o : Oper) (d : Tmp) (v : Value) (w' : World), l[i]? = some o → i < n → listed.getD i true = false → (∀ e ∈ o.after, Region.binds .any e = true → listed.getD e.on false = true) → o.dst = some d → d < a0.tmps.size →
        (∀ j ∈ (RS.at_ sp i).D, j < i) → Ext w w' → (RS.at_ sp i).ψ ((RS.at_ sp i).D.map V) v w' → RInv C l n sp a0 (fun k => if k = i then v else V k) (listed.setIfInBounds i true) (a.put (some d) v) w' := by
      intro i o d v w' ho hin hun hall q3 q4 hDi hx hψ
      have hdi : dstOf l i = some d := by unfold dstOf; rw [ho]; exact q3
      have hVD : ∀ j, (∀ k ∈ (RS.at_ sp j).D, k ≠ i) → (RS.at_ sp j).D.map (fun k => if k = i then v else V k) = (RS.at_ sp j).D.map V := fun j hj => List.map_congr_left fun k hk => if_neg (hj k hk)
      refine ⟨by simpa using inv.size, fun t ht htl => by rw [getD_set_ne true (by omega)]; exact inv.tail t ht htl, fun j oj hj hoj hjl e he hb => ?_, ?_, ?_, fun j d' hj hjl hdj => ?_, fun t ht => ?_, fun j hj hjl => ?_, hC _ _ inv.wld hx⟩
      · by_cases e' : i = j
        · subst e'
          rw [ho] at hoj; injection hoj with hoj; subst hoj
          exact getD_set_true (hall e he hb)
        · rw [getD_set_ne true e'] at hjl
          exact getD_set_true (inv.closed j oj hj hoj hjl e he hb)
      · exact (put_size _ _ _).1.trans inv.asz
      · exact (put_size _ _ _).2.trans inv.adf
      · rw [put_getD _ _ _ _ (by rw [inv.asz]; exact q4)]
        by_cases e' : i = j
        · subst e'
          rw [hdi] at hdj; injection hdj with hdj
          rw [if_pos hdj.symm, if_pos rfl]
        · rw [getD_set_ne true e'] at hjl
          rw [if_neg (fun h => by
            subst h
            rcases Nat.lt_trichotomy i j with h | h | h
            · exact hR.ne j i hj h (hdi.trans hdj.symm)
            · exact e' h
            · exact hR.ne i j hin h (hdj.trans hdi.symm)), if_neg (Ne.symm e')]
          exact inv.slot j d' hj hjl hdj
      · rw [put_getD _ _ _ _ (by rw [inv.asz]; exact q4), if_neg (fun h => ht i hin (getD_set_new hun) (by rw [hdi, h]))]
        exact inv.other t fun j hj hjl => by
          by_cases e' : i = j
          · subst e'; rw [hun] at hjl; cases hjl
          · exact ht j hj (by rw [getD_set_ne true e']; exact hjl)
      · by_cases e' : i = j
        · subst e'
          unfold factOf
          rw [hVD i (fun k hk => by have := hDi k hk; omega)]
          show (RS.at_ sp i).ψ _ (if i = i then v else V i) w'
          rw [if_pos rfl]
          exact hψ
        · rw [getD_set_ne true e'] at hjl
          unfold factOf
          show (RS.at_ sp j).ψ _ (if j = i then v else V j) w'
          rw [if_neg (Ne.symm e'), hVD j (fun k hk e2 => by
            subst e2
            obtain ⟨oj, dj, r1, r2, r3, r4, r5, r6⟩ := hR.op j hj
            obtain ⟨e, he, hb, hon⟩ := r6 k hk
            have := getD_t (inv.closed j oj hj r1 hjl e he hb)
            rw [hon, hun] at this
            cases this)]
          exact (RS.at_ sp j).mono _ _ _ _ (inv.fact j hj hjl) hx
    refine ⟨fun h => ?_, fun i hi => ?_⟩
    · exfalso
      obtain ⟨o, d, q1, q2, q3, q4, q5, q6⟩ := hR.op i0 hi0
      have : i0 ∈ Region.ready .any l.toArray listed := mem_ready.2 ⟨hu0, o, by simpa using q1, fun e he hb => getD_f (hlt (by have := q5 e he hb; omega)) (hp0 e.on (q5 e he hb))⟩
      rw [h] at this
      cases this
    · obtain ⟨hun, o, ho, hall⟩ := mem_ready.1 hi
      have ho : l[i]? = some o := by simpa using ho
      have hil : i < l.length := (List.getElem?_eq_some_iff.1 ho).1
      have hin : i < n := by
        rcases Nat.lt_or_ge i n with h | h
        · exact h
        · exfalso
          obtain ⟨o', q1, q2⟩ := hR.tail i h hil
          rw [ho] at q1; injection q1 with q1; subst q1
          obtain ⟨e, he, hb, hon⟩ := q2 i0 hi0
          have := getD_t (hall e he hb)
          rw [hon, hu0] at this
          cases this
      obtain ⟨o', d, q1, q2, q3, q4, q5, q6⟩ := hR.op i hin
      rw [ho] at q1; injection q1 with q1; subst q1
      have hdi : dstOf l i = some d := by unfold dstOf; rw [ho]; exact q3
      have hDl : ∀ j ∈ (RS.at_ sp i).D, j < n ∧ listed.getD j true = true ∧ j < i := fun j hj => by
        obtain ⟨e, he, hb, hon⟩ := q6 j hj
        have h1 := q5 e he hb
        rw [hon] at h1
        exact ⟨by omega, hon ▸ getD_t (hall e he hb), h1⟩
      unfold wpOp
      have ho' : l.toArray[i]? = some o := by simpa using ho
      have hw : Region.wanted o (yielded l.toArray a.tmps) = true := by
        rcases q2 with q2 | ⟨q2, hgD⟩
        · simp [Region.wanted, q2]
        · obtain ⟨hgn, hgl, -⟩ := hDl g0 hgD
          obtain ⟨og, dg, r1, -, r3, -⟩ := hR.op g0 hgn
          have hsl := inv.slot g0 dg hgn hgl (by unfold dstOf; rw [r1]; exact r3)
          rw [hg0 V w (inv.fact g0 hgn hgl)] at hsl
          have e1 : a.tmps[dg]? = some (.bool b0) := by
            rw [Array.getD_eq_getD_getElem?] at hsl
            cases hh : a.tmps[dg]? with
            | none => rw [hh] at hsl; cases hsl
            | some u => rw [hh] at hsl; exact congrArg some hsl
          have e2 : yielded l.toArray a.tmps g0 = some b0 := by
            have e3 : l.toArray[g0]? = some og := by simpa using r1
            unfold yielded
            rw [e3]
            simp only [Option.bind_some, r3, e1]
          simp [Region.wanted, q2, e2]
      simp only [ho', hw, if_true]
      left
      have hs := hstep i o hin ho V (fun t => a.tmps.getD t undef) w inv.wld (fun j hj => inv.fact j (hDl j hj).1 (hDl j hj).2.1) (fun j hj d' hd' => inv.slot j d' (hDl j hj).1 (hDl j hj).2.1 hd') (fun t ht => inv.other t fun j hj _ => ht j hj)
      rw [← eval_evalOf] at hs
      refine hs.wp fun v w' ⟨hx, hψ⟩ => ?_
      rw [q3]
      exact ih _ _ _ w' (by have := cntU_set hun n hin; omega) (upd i o d v w' ho hin hun hall q3 q4 (fun j hj => (hDl j hj).2.2) hx hψ)
/-- A region that draws its order, by the words on its operations. -/
theorem wp_region_relG {id : Nat} {l : List Oper} {n : Nat} {sp : List RS} {a0 : Act} {g0 : Nat} {b0 : Bool} {w0 : World} {Q : Exit → Act → World → Prop} (C : World → Prop) (hm : P.follows .mixedOrders = true) (hR : RelOKG l n sp a0 g0 b0) (hg0 : ∀ V w, factOf sp V w g0 → V g0 = .bool b0) (hC : ∀ w w', C w → Ext w w' → C w') (h0 : C w0.drew)
    (hstep : RSteps P l n sp a0 C (l.take n) 0)
    (hend : ∀ V w, C w → (∀ i, i < n → factOf sp V w i) → wpAny P .any l.toArray Q (l.length - n) (headDone l n) (putAll V (l.take n) 0 a0) w) :
    (Code.region id l.toArray true).wp P Q a0 w0 := by
  refine wp_region_any hm ?_
  have hle := hR.le
  have := wpAny_relG hR hg0 hC (fun i o hi ho V τ w hc hf ht h0 => by
    have := RSteps.get _ _ hstep i o (by rw [List.getElem?_take, if_pos hi]; exact ho)
    rw [Nat.zero_add] at this
    exact this V τ w hc hf ht (fun t ht' => h0 t fun j hj e => by
      have := List.all_eq_true.1 ht' j (List.mem_range.2 hj)
      rw [e] at this
      simp at this)) hend n (fun _ => undef) (Array.replicate l.toArray.size false) a0 w0.drew (cntU_none _ _ (by simpa using hle))
    ⟨by simp, fun t _ htl => getD_in (by simpa using htl) (getD_replicate_false _ _), fun i o hi _ hl => (by rw [getD_in (by simp; omega) (getD_replicate_false _ _)] at hl; cases hl), rfl, rfl,
     fun i d hi hl => (by rw [getD_in (by simp; omega) (getD_replicate_false _ _)] at hl; cases hl), fun _ _ => rfl, fun i hi hl => (by rw [getD_in (by simp; omega) (getD_replicate_false _ _)] at hl; cases hl), h0⟩
  rw [show n + (l.length - n) = l.toArray.size by simp; omega] at this
  exact this
theorem wp_region_relGT {id : Nat} {l : List Oper} {n : Nat} {sp : List RS} {a0 : Act} {g0 : Nat} {b0 : Bool} {w0 : World} {Q : Exit → Act → World → Prop} (ts : List Nat) (C : World → Prop) (hm : P.follows .mixedOrders = true) (hR : RelOKG l n sp a0 g0 b0) (hg0 : ∀ V w, factOf sp V w g0 → V g0 = .bool b0) (hT : tailB l n ts = true) (hC : ∀ w w', C w → Ext w w' → C w') (h0 : C w0.drew)
    (hstep : RSteps P l n sp a0 C (l.take n) 0)
    (hend : ∀ V w, C w → (∀ i, i < n → factOf sp V w i) → wpList P l.toArray Q (nths l ts) (putAll V (l.take n) 0 a0) w) :
    (Code.region id l.toArray true).wp P Q a0 w0 :=
  wp_region_relG C hm hR hg0 hC h0 hstep fun V w hc hf => wpAny_tail hT (hend V w hc hf)
end
end Go.Proofs.YtjpdebgejlfeaaaDoor
/- A region that draws its order: the law of RelB for operations that write: facts are stable under a relation of worlds, the class of worlds counts what is left. -/
namespace Go.Proofs.YtjpdebgejlfeaaaDoor
open Go.RowKit

section
variable {P : Program} {Rl : World → World → Prop}
/-- The word on an operation: the operations whose values it uses; what is known of its own value, given theirs. -/
structure RK (Rl : World → World → Prop) where
  D : List Nat
  ψ : List Value → Value → World → Prop
  mono : ∀ vs v w w', ψ vs v w → Rl w w' → ψ vs v w'
def RK.q (D : List Nat) (g : List Value → Value) : RK Rl := ⟨D, fun vs v _ => v = g vs, fun _ _ _ _ h _ => h⟩
/-- A word on the value alone. -/
def RK.p (D : List Nat) (g : List Value → Value → Prop) : RK Rl := ⟨D, fun vs v _ => g vs v, fun _ _ _ _ h _ => h⟩
def RK.at_ (sp : List (RK Rl)) (i : Nat) : RK Rl := sp.getD i ⟨[], fun _ _ _ => True, fun _ _ _ _ h _ => h⟩
def factK (sp : List (RK Rl)) (V : Nat → Value) (w : World) (i : Nat) : Prop := (RK.at_ sp i).ψ ((RK.at_ sp i).D.map V) (V i) w
structure RInvK (C : Nat → World → Prop) (l : List Oper) (n : Nat) (sp : List (RK Rl)) (a0 : Act) (m : Nat) (V : Nat → Value) (listed : Array Bool) (a : Act) (w : World) : Prop where
  size : listed.size = l.length
  tail : ∀ t, n ≤ t → t < l.length → listed.getD t true = false
  closed : ∀ i o, i < n → l[i]? = some o → listed.getD i true = true → ∀ e ∈ o.after, Region.binds .any e = true → listed.getD e.on false = true
  asz : a.tmps.size = a0.tmps.size
  adf : a.defers = a0.defers
  slot : ∀ i d, i < n → listed.getD i true = true → dstOf l i = some d → a.tmps.getD d undef = V i
  other : ∀ t, (∀ i, i < n → listed.getD i true = true → dstOf l i ≠ some t) → a.tmps.getD t undef = a0.tmps.getD t undef
  fact : ∀ i, i < n → listed.getD i true = true → factK sp V w i
  wld : C m w
structure RelOKK (l : List Oper) (n : Nat) (sp : List (RK Rl)) (a0 : Act) (fl : List Nat := []) : Prop where
  le : n ≤ l.length
  op : ∀ i, i < n → ∃ o d, l[i]? = some o ∧ o.guard = none ∧ o.dst = some d ∧ d < a0.tmps.size ∧ (∀ e ∈ o.after, Region.binds .any e = true → e.on < i) ∧ (∀ j ∈ (RK.at_ sp i).D, ∃ e ∈ o.after, Region.binds .any e = true ∧ e.on = j)
  ne : ∀ i j, i < n → j < i → dstOf l j ≠ dstOf l i
  tail : ∀ t, n ≤ t → t < l.length → ∃ o, l[t]? = some o ∧ ∀ i, i < n → i ∉ fl → ∃ e ∈ o.after, Region.binds .any e = true ∧ e.on = i
theorem relOKK {l : List Oper} {n : Nat} {sp : List (RK Rl)} {a0 : Act} {fl : List Nat} {D : List (List Nat)} (hD : sp.map (·.D) = D) (h : relB .any l D n fl = true) (hs : ((List.range n).all fun i => match dstOf l i with | some d => decide (d < a0.tmps.size) | none => false) = true) : RelOKK l n sp a0 fl := by
  subst hD
  simp only [relB, Bool.and_eq_true, decide_eq_true_eq] at h
  obtain ⟨⟨h1, h2⟩, h3⟩ := h
  rw [List.all_eq_true] at h2 h3 hs
  have hdD : ∀ i, ((sp.map (·.D)).getD i []) = (RK.at_ sp i).D := fun i => by
    unfold RK.at_
    rw [List.getD_eq_getElem?_getD, List.getD_eq_getElem?_getD, List.getElem?_map]
    cases sp[i]? <;> rfl
  have hop : ∀ i, i < n → ∃ o d, l[i]? = some o ∧ o.guard = none ∧ o.dst = some d ∧ d < a0.tmps.size ∧ (∀ e ∈ o.after, Region.binds .any e = true → e.on < i) ∧ (∀ j ∈ (RK.at_ sp i).D, ∃ e ∈ o.after, Region.binds .any e = true ∧ e.on = j) ∧ ∀ j, j < i → dstOf l j ≠ o.dst := by
    intro i hi
    have g := h2 i (List.mem_range.2 hi)
    have gs := hs i (List.mem_range.2 hi)
    cases ho : l[i]? with
    | none => rw [ho] at g; cases g
    | some o =>
      rw [ho] at g
      simp only [Bool.and_eq_true, Option.isNone_iff_eq_none, Option.isSome_iff_exists] at g
      obtain ⟨g1, ⟨d, g2⟩, g3, g4, g5⟩ := g
      have e1 : dstOf l i = some d := by unfold dstOf; rw [ho]; exact g2
      rw [e1] at gs
      rw [Array.all_eq_true_iff_forall_mem] at g3
      rw [hdD, List.all_eq_true] at g4
      rw [List.all_eq_true] at g5
      refine ⟨o, d, rfl, g1, g2, by simpa using gs, fun e he hb => ?_, fun j hj => ?_, fun j hj e => ?_⟩
      · have := g3 e he
        rw [hb] at this
        simpa using this
      · have := g4 j hj
        obtain ⟨e, he, hb⟩ := Array.any_eq_true'.1 this
        simp only [Bool.and_eq_true, beq_iff_eq] at hb
        exact ⟨e, he, hb.1, hb.2⟩
      · have := g5 j (List.mem_range.2 hj)
        rw [e] at this
        simp at this
  refine ⟨h1, fun i hi => ?_, fun i j hi hj e => ?_, fun t ht htl => ?_⟩
  · obtain ⟨o, d, q1, q2, q3, q4, q5, q6, -⟩ := hop i hi
    exact ⟨o, d, q1, q2, q3, q4, q5, q6⟩
  · obtain ⟨o, d, q1, q2, q3, q4, q5, q6, q7⟩ := hop i hi
    refine q7 j hj (e.trans ?_)
    unfold dstOf; rw [q1]; rfl
  · have g := h3 t (List.mem_range.2 htl)
    cases ho : l[t]? with
    | none => rw [ho] at g; simp at g; omega
    | some o =>
      rw [ho] at g
      simp only [Bool.or_eq_true, decide_eq_true_eq] at g
      rcases g with g | g
      · omega
      · rw [List.all_eq_true] at g
        refine ⟨o, rfl, fun i hi hf => ?_⟩
        have g := g i (List.mem_range.2 hi)
        rw [Bool.or_eq_true] at g
        rcases g with g | g
        · exact absurd (by simpa using g) hf
        obtain ⟨e, he, hb⟩ := Array.any_eq_true'.1 g
        simp only [Bool.and_eq_true, beq_iff_eq] at hb
        exact ⟨e, he, hb.1, hb.2⟩
theorem wpAny_relK {l : List Oper} {n : Nat} {sp : List (RK Rl)} {a0 : Act} {fl : List Nat} {C : Nat → World → Prop} {Q : Exit → Act → World → Prop} (hR : RelOKK l n sp a0 fl) (hF : fl = [] ∨ (fltB .any l n fl = true ∧ ∀ c a d v w, Q (.panic c) (a.put d v) w → Q (.panic c) a w)) (hC : ∀ m w, C (m + 1) w → C m w)
    (hflt : ∀ i o, i ∈ fl → l[i]? = some o → ∀ (m : Nat) (V τ : Nat → Value) (w : World), C (m + 1) w → (∀ j ∈ (RK.at_ sp i).D, factK sp V w j) → (∀ j ∈ (RK.at_ sp i).D, ∀ d, dstOf l j = some d → τ d = V j) →
      (∀ t, (∀ j, j < n → dstOf l j ≠ some t) → τ t = a0.tmps.getD t undef) → ∃ v, (∀ w', (execOp (evalOf τ) o).run P w' = .ok (.value v) w') ∧ (RK.at_ sp i).ψ ((RK.at_ sp i).D.map V) v w)
    (hstep : ∀ i o, i < n → l[i]? = some o → ∀ (m : Nat) (V τ : Nat → Value) (w : World), C (m + 1) w → (∀ j ∈ (RK.at_ sp i).D, factK sp V w j) → (∀ j ∈ (RK.at_ sp i).D, ∀ d, dstOf l j = some d → τ d = V j) →
      (∀ t, (∀ j, j < n → dstOf l j ≠ some t) → τ t = a0.tmps.getD t undef) → Does P o (evalOf τ) w (fun v w' => Rl w w' ∧ C m w' ∧ (RK.at_ sp i).ψ ((RK.at_ sp i).D.map V) v w'))
    (hrf : ∀ w, Rl w w) (hend : ∀ V w, C 0 w → (∀ i, i < n → factK sp V w i) → wpAny P .any l.toArray Q (l.length - n) (headDone l n) (putAll V (l.take n) 0 a0) w) :
    ∀ (m : Nat) (V : Nat → Value) (listed : Array Bool) (a : Act) (w : World), cntU listed n = m → RInvK C l n sp a0 m V listed a w → wpAny P .any l.toArray Q (m + (l.length - n)) listed a w := by
  intro m
  induction m with
  | zero =>
    intro V listed a w hm inv
    have hall := cntU_zero n hm
    have e1 : listed = headDone l n := by
      refine Array.ext (by rw [inv.size, headDone_size]) fun i h1 h2 => ?_
      have hil : i < l.length := by rw [← inv.size]; exact h1
      have e := headDone_at l n hil
      rw [Array.getElem?_eq_getElem h2] at e
      injection e with e
      rw [e]
      by_cases hi : i < n
      · have := hall i hi
        simp [h1] at this
        rw [this]; simp [hi]
      · have := inv.tail i (by omega) hil
        simp [h1] at this
        rw [this]; simp [hi]
    obtain ⟨p1, p2, p3, p4⟩ := putAll_spec V (l.take n) 0 a0 (fun i o d hi ho => by
      have hin : i < n := by have := (List.getElem?_eq_some_iff.1 hi).1; rw [List.length_take] at this; omega
      rw [List.getElem?_take, if_pos hin] at hi
      obtain ⟨o', d', q1, -, q3, q4, -⟩ := hR.op i hin
      rw [q1] at hi; injection hi with hi; subst hi
      rw [q3] at ho; injection ho with ho; subst ho
      exact q4) (fun i j o o' d hi hj ho ho' => by
      have hin : i < n := by have := (List.getElem?_eq_some_iff.1 hi).1; rw [List.length_take] at this; omega
      have hjn : j < n := by have := (List.getElem?_eq_some_iff.1 hj).1; rw [List.length_take] at this; omega
      rw [List.getElem?_take, if_pos hin] at hi
      rw [List.getElem?_take, if_pos hjn] at hj
      have e1 : dstOf l i = some d := by unfold dstOf; rw [hi]; exact ho
      have e2 : dstOf l j = some d := by unfold dstOf; rw [hj]; exact ho'
      rcases Nat.lt_trichotomy i j with h | h | h
      · exact absurd (e1.trans e2.symm) (hR.ne j i hjn h)
      · exact h
      · exact absurd (e2.trans e1.symm) (hR.ne i j hin h))
    have e2 : a = putAll V (l.take n) 0 a0 := by
      refine act_ext (inv.asz.trans p1.symm) (inv.adf.trans p2.symm) fun t => ?_
      by_cases ht : ∃ i, i < n ∧ dstOf l i = some t
      · obtain ⟨i, hi, hd⟩ := ht
        obtain ⟨o, d, q1, -, q3, -⟩ := hR.op i hi
        have ed : d = t := by unfold dstOf at hd; rw [q1] at hd; have : o.dst = some t := hd; rw [q3] at this; injection this
        subst ed
        have := p4 i o d (by rw [List.getElem?_take, if_pos hi]; exact q1) q3
        rw [Nat.zero_add] at this
        rw [this, inv.slot i d hi (hall i hi) hd]
      · rw [inv.other t fun i hi _ e => ht ⟨i, hi, e⟩, p3 t fun i o hi e => ?_]
        have hin : i < n := by have := (List.getElem?_eq_some_iff.1 hi).1; rw [List.length_take] at this; omega
        rw [List.getElem?_take, if_pos hin] at hi
        exact ht ⟨i, hin, by unfold dstOf; rw [hi]; exact e⟩
    rw [e1, e2, Nat.zero_add]
    exact hend V w inv.wld fun i hi => inv.fact i hi (hall i hi)
  | succ m ih =>
    intro V listed a w hm inv
    rw [show m + 1 + (l.length - n) = (m + (l.length - n)) + 1 by omega]
    have hlt : ∀ {i}, i < n → i < listed.size := fun {i} hi => by rw [inv.size]; exact Nat.lt_of_lt_of_le hi hR.le
    obtain ⟨i0, hi0, hu0, hp0⟩ := cntU_pos (listed := listed) n (by omega)
    have upd : ∀ (i : Nat) (o : Oper) (d : Tmp) (v : Value) (w' : World), l[i]? = some o → i < n → listed.getD i true = false → (∀ e ∈ o.after, Region.binds .any e = true → listed.getD e.on false = true) → o.dst = some d → d < a0.tmps.size →
        (∀ j ∈ (RK.at_ sp i).D, j < i) → Rl w w' → C m w' → (RK.at_ sp i).ψ ((RK.at_ sp i).D.map V) v w' → RInvK C l n sp a0 m (fun k => if k = i then v else V k) (listed.setIfInBounds i true) (a.put (some d) v) w' := by
      intro i o d v w' ho hin hun hall q3 q4 hDi hx hcm hψ
      have hdi : dstOf l i = some d := by unfold dstOf; rw [ho]; exact q3
      have hVD : ∀ j, (∀ k ∈ (RK.at_ sp j).D, k ≠ i) → (RK.at_ sp j).D.map (fun k => if k = i then v else V k) = (RK.at_ sp j).D.map V := fun j hj => List.map_congr_left fun k hk => if_neg (hj k hk)
      refine ⟨by simpa using inv.size, fun t ht htl => by rw [getD_set_ne true (by omega)]; exact inv.tail t ht htl, fun j oj hj hoj hjl e he hb => ?_, ?_, ?_, fun j d' hj hjl hdj => ?_, fun t ht => ?_, fun j hj hjl => ?_, hcm⟩
      · by_cases e' : i = j
        · subst e'
          rw [ho] at hoj; injection hoj with hoj; subst hoj
          exact getD_set_true (hall e he hb)
        · rw [getD_set_ne true e'] at hjl
          exact getD_set_true (inv.closed j oj hj hoj hjl e he hb)
      · exact (put_size _ _ _).1.trans inv.asz
      · exact (put_size _ _ _).2.trans inv.adf
      · rw [put_getD _ _ _ _ (by rw [inv.asz]; exact q4)]
        by_cases e' : i = j
        · subst e'
          rw [hdi] at hdj; injection hdj with hdj
          rw [if_pos hdj.symm, if_pos rfl]
        · rw [getD_set_ne true e'] at hjl
          rw [if_neg (fun h => by
            subst h
            rcases Nat.lt_trichotomy i j with h | h | h
            · exact hR.ne j i hj h (hdi.trans hdj.symm)
            · exact e' h
            · exact hR.ne i j hin h (hdj.trans hdi.symm)), if_neg (Ne.symm e')]
          exact inv.slot j d' hj hjl hdj
      · rw [put_getD _ _ _ _ (by rw [inv.asz]; exact q4), if_neg (fun h => ht i hin (getD_set_new hun) (by rw [hdi, h]))]
        exact inv.other t fun j hj hjl => by
          by_cases e' : i = j
          · subst e'; rw [hun] at hjl; cases hjl
          · exact ht j hj (by rw [getD_set_ne true e']; exact hjl)
      · by_cases e' : i = j
        · subst e'
          unfold factK
          rw [hVD i (fun k hk => by have := hDi k hk; omega)]
          show (RK.at_ sp i).ψ _ (if i = i then v else V i) w'
          rw [if_pos rfl]
          exact hψ
        · rw [getD_set_ne true e'] at hjl
          unfold factK
          show (RK.at_ sp j).ψ _ (if j = i then v else V j) w'
          rw [if_neg (Ne.symm e'), hVD j (fun k hk e2 => by
            subst e2
            obtain ⟨oj, dj, r1, r2, r3, r4, r5, r6⟩ := hR.op j hj
            obtain ⟨e, he, hb, hon⟩ := r6 k hk
            have := getD_t (inv.closed j oj hj r1 hjl e he hb)
            rw [hon, hun] at this
            cases this)]
          exact (RK.at_ sp j).mono _ _ _ _ (inv.fact j hj hjl) hx
    by_cases hfr : ∃ i, i ∈ fl ∧ i ∈ Region.ready .any l.toArray listed
    · obtain ⟨i, hfi, hi⟩ := hfr
      obtain ⟨hun, o, ho, hall⟩ := mem_ready.1 hi
      have ho : l[i]? = some o := by simpa using ho
      rcases hF with hF | ⟨hF, hQ⟩
      · rw [hF] at hfi; cases hfi
      simp only [fltB, Bool.and_eq_true] at hF
      obtain ⟨hns, hF⟩ := hF
      have g := List.all_eq_true.1 hF i hfi
      rw [ho] at g
      simp only [Bool.and_eq_true, decide_eq_true_eq] at g
      obtain ⟨hin, -, g2⟩ := g
      obtain ⟨o', d, q1, q2, q3, q4, q5, q6⟩ := hR.op i hin
      rw [ho] at q1; injection q1 with q1; subst q1
      have hDl : ∀ j ∈ (RK.at_ sp i).D, j < n ∧ listed.getD j true = true ∧ j < i := fun j hj => by
        obtain ⟨e, he, hb, hon⟩ := q6 j hj
        have h1 := q5 e he hb
        rw [hon] at h1
        exact ⟨by omega, hon ▸ getD_t (hall e he hb), h1⟩
      obtain ⟨v, hrun, hψ⟩ := hflt i o hfi ho m V (fun t => a.tmps.getD t undef) w inv.wld (fun j hj => inv.fact j (hDl j hj).1 (hDl j hj).2.1) (fun j hj d' hd' => inv.slot j d' (hDl j hj).1 (hDl j hj).2.1 hd') (fun t ht => inv.other t fun j hj _ => ht j hj)
      rw [← eval_evalOf] at hrun
      refine wpAny_first (i := i) (oi := o) (v := v) (by simpa using ho) (Region.noSelect_spec hns) (fun c a w => hQ c a o.dst v w) (m + (l.length - n)) listed a w (fun j oj hoj hji hunj hno => ?_) hi (Or.inl ⟨by simp [Region.wanted, q2], hrun⟩) ?_
      · have hoj' : l[j]? = some oj := by simpa using hoj
        have g3 := List.all_eq_true.1 g2 j (List.mem_range.2 (List.getElem?_eq_some_iff.1 hoj').1)
        rw [hoj'] at g3
        simp only [Bool.or_eq_true, beq_iff_eq] at g3
        rcases g3 with g3 | g3 | g3 | g3
        · exact absurd g3 hji
        · obtain ⟨e, he, hb⟩ := Array.any_eq_true'.1 g3
          simp only [Bool.and_eq_true, beq_iff_eq] at hb
          have := getD_t (hall e he hb.1)
          rw [hb.2, hunj] at this
          cases this
        · obtain ⟨e, he, hb⟩ := Array.any_eq_true'.1 g3
          simp only [Bool.and_eq_true, beq_iff_eq] at hb
          exact absurd hb.2 (hno e he hb.1)
        · exact g3
      · rw [q3]
        exact ih _ _ _ w (by have := cntU_set hun n hin; omega) (upd i o d v w ho hin hun hall q3 q4 (fun j hj => (hDl j hj).2.2) (hrf w) (hC _ _ inv.wld) hψ)
    refine ⟨fun h => ?_, fun i hi => ?_⟩
    · exfalso
      obtain ⟨o, d, q1, q2, q3, q4, q5, q6⟩ := hR.op i0 hi0
      have : i0 ∈ Region.ready .any l.toArray listed := mem_ready.2 ⟨hu0, o, by simpa using q1, fun e he hb => getD_f (hlt (by have := q5 e he hb; omega)) (hp0 e.on (q5 e he hb))⟩
      rw [h] at this
      cases this
    · obtain ⟨hun, o, ho, hall⟩ := mem_ready.1 hi
      have ho : l[i]? = some o := by simpa using ho
      have hil : i < l.length := (List.getElem?_eq_some_iff.1 ho).1
      have hin : i < n := by
        rcases Nat.lt_or_ge i n with h | h
        · exact h
        · exfalso
          obtain ⟨o', q1, q2⟩ := hR.tail i h hil
          rw [ho] at q1; injection q1 with q1; subst q1
          have hno : ∀ k, k < n → k ∉ fl → listed.getD k true = true := fun k hk hkf => by
            obtain ⟨e, he, hb, hon⟩ := q2 k hk hkf
            have := getD_t (hall e he hb)
            rwa [hon] at this
          by_cases hif : i0 ∈ fl
          · rcases hF with hF | ⟨hF, -⟩
            · rw [hF] at hif; cases hif
            simp only [fltB, Bool.and_eq_true] at hF
            have g := List.all_eq_true.1 hF.2 i0 hif
            obtain ⟨o0, d0, r1, r2, r3, r4, r5, r6⟩ := hR.op i0 hi0
            rw [r1] at g
            simp only [Bool.and_eq_true, decide_eq_true_eq] at g
            have g1 := Array.all_eq_true_iff_forall_mem.1 g.2.1
            refine hfr ⟨i0, hif, mem_ready.2 ⟨hu0, o0, by simpa using r1, fun e he hb => ?_⟩⟩
            have g4 := g1 e he
            rw [hb] at g4
            have h5 := r5 e he hb
            exact getD_f (hlt (by omega)) (hno e.on (by omega) (by simpa using g4))
          · rw [hno i0 hi0 hif] at hu0
            cases hu0
      obtain ⟨o', d, q1, q2, q3, q4, q5, q6⟩ := hR.op i hin
      rw [ho] at q1; injection q1 with q1; subst q1
      have hdi : dstOf l i = some d := by unfold dstOf; rw [ho]; exact q3
      have hDl : ∀ j ∈ (RK.at_ sp i).D, j < n ∧ listed.getD j true = true ∧ j < i := fun j hj => by
        obtain ⟨e, he, hb, hon⟩ := q6 j hj
        have h1 := q5 e he hb
        rw [hon] at h1
        exact ⟨by omega, hon ▸ getD_t (hall e he hb), h1⟩
      unfold wpOp
      have ho' : l.toArray[i]? = some o := by simpa using ho
      have hw : Region.wanted o (yielded l.toArray a.tmps) = true := by simp [Region.wanted, q2]
      simp only [ho', hw, if_true]
      left
      have hs := hstep i o hin ho m V (fun t => a.tmps.getD t undef) w inv.wld (fun j hj => inv.fact j (hDl j hj).1 (hDl j hj).2.1) (fun j hj d' hd' => inv.slot j d' (hDl j hj).1 (hDl j hj).2.1 hd') (fun t ht => inv.other t fun j hj _ => ht j hj)
      rw [← eval_evalOf] at hs
      refine hs.wp fun v w' ⟨hx, hcm, hψ⟩ => ?_
      rw [q3]
      exact ih _ _ _ w' (by have := cntU_set hun n hin; omega) (upd i o d v w' ho hin hun hall q3 q4 (fun j hj => (hDl j hj).2.2) hx hcm hψ)
def RStepK (P : Program) (l : List Oper) (n : Nat) (sp : List (RK Rl)) (a0 : Act) (C : Nat → World → Prop) (i : Nat) (o : Oper) : Prop :=
  ∀ (m : Nat) (V τ : Nat → Value) (w : World), C (m + 1) w → (∀ j ∈ (RK.at_ sp i).D, factK sp V w j) → (∀ j ∈ (RK.at_ sp i).D, ∀ d, dstOf l j = some d → τ d = V j) →
    (∀ t, ((List.range n).all fun j => dstOf l j != some t) = true → τ t = a0.tmps.getD t undef) → Does P o (evalOf τ) w (fun v w' => Rl w w' ∧ C m w' ∧ (RK.at_ sp i).ψ ((RK.at_ sp i).D.map V) v w')
def RStepsK (P : Program) (l : List Oper) (n : Nat) (sp : List (RK Rl)) (a0 : Act) (C : Nat → World → Prop) : List Oper → Nat → Prop
  | [], _ => True
  | o :: os, i => RStepK P l n sp a0 C i o ∧ RStepsK P l n sp a0 C os (i + 1)
theorem RStepsK.get {l : List Oper} {n : Nat} {sp : List (RK Rl)} {a0 : Act} {C : Nat → World → Prop} : ∀ (os : List Oper) (k : Nat), RStepsK P l n sp a0 C os k → ∀ (i : Nat) (o : Oper), os[i]? = some o → RStepK P l n sp a0 C (k + i) o
  | [], _, _, i, o, h => by simp at h
  | o0 :: os, k, h, 0, o, ho => by injection ho with ho; subst ho; exact h.1
  | o0 :: os, k, h, i + 1, o, ho => by
    have := RStepsK.get os (k + 1) h.2 i o ho
    rwa [show k + 1 + i = k + (i + 1) by omega] at this
def RFltsK (P : Program) (l : List Oper) (n : Nat) (sp : List (RK Rl)) (a0 : Act) (C : Nat → World → Prop) : List Nat → Prop
  | [] => True
  | i :: is => (∀ o, l[i]? = some o → ∀ (m : Nat) (V τ : Nat → Value) (w : World), C (m + 1) w → (∀ j ∈ (RK.at_ sp i).D, factK sp V w j) → (∀ j ∈ (RK.at_ sp i).D, ∀ d, dstOf l j = some d → τ d = V j) →
    (∀ t, ((List.range n).all fun j => dstOf l j != some t) = true → τ t = a0.tmps.getD t undef) → ∃ v, (∀ w', (execOp (evalOf τ) o).run P w' = .ok (.value v) w') ∧ (RK.at_ sp i).ψ ((RK.at_ sp i).D.map V) v w) ∧ RFltsK P l n sp a0 C is
theorem RFltsK.get {l : List Oper} {n : Nat} {sp : List (RK Rl)} {a0 : Act} {C : Nat → World → Prop} : ∀ (fl : List Nat), RFltsK P l n sp a0 C fl → ∀ i ∈ fl, ∀ o, l[i]? = some o → ∀ (m : Nat) (V τ : Nat → Value) (w : World), C (m + 1) w → (∀ j ∈ (RK.at_ sp i).D, factK sp V w j) → (∀ j ∈ (RK.at_ sp i).D, ∀ d, dstOf l j = some d → τ d = V j) →
    (∀ t, ((List.range n).all fun j => dstOf l j != some t) = true → τ t = a0.tmps.getD t undef) → ∃ v, (∀ w', (execOp (evalOf τ) o).run P w' = .ok (.value v) w') ∧ (RK.at_ sp i).ψ ((RK.at_ sp i).D.map V) v w
  | [], _, i, hi => by cases hi
  | k :: is, h, i, hi => by
    rcases List.mem_cons.1 hi with rfl | hi
    · exact h.1
    · exact RFltsK.get is h.2 i hi
theorem wp_region_relK {id : Nat} {l : List Oper} {n : Nat} {sp : List (RK Rl)} {a0 : Act} {w0 : World} {Q : Exit → Act → World → Prop} (C : Nat → World → Prop) (hm : P.follows .mixedOrders = true) (hR : RelOKK l n sp a0) (hC : ∀ m w, C (m + 1) w → C m w) (hrf : ∀ w, Rl w w) (h0 : C n w0.drew)
    (hstep : RStepsK P l n sp a0 C (l.take n) 0)
    (hend : ∀ V w, C 0 w → (∀ i, i < n → factK sp V w i) → wpAny P .any l.toArray Q (l.length - n) (headDone l n) (putAll V (l.take n) 0 a0) w) :
    (Code.region id l.toArray true).wp P Q a0 w0 := by
  refine wp_region_any hm ?_
  have hle := hR.le
  have := wpAny_relK hR (.inl rfl) hC (fun i o hi => by cases hi) (fun i o hi ho m V τ w hc hf ht h0 => by
    have := RStepsK.get _ _ hstep i o (by rw [List.getElem?_take, if_pos hi]; exact ho)
    rw [Nat.zero_add] at this
    exact this m V τ w hc hf ht (fun t ht' => h0 t fun j hj e => by
      have := List.all_eq_true.1 ht' j (List.mem_range.2 hj)
      rw [e] at this
      simp at this)) hrf hend n (fun _ => undef) (Array.replicate l.toArray.size false) a0 w0.drew (cntU_none _ _ (by simpa using hle))
    ⟨by simp, fun t _ htl => getD_in (by simpa using htl) (getD_replicate_false _ _), fun i o hi _ hl => (by rw [getD_in (by simp; omega) (getD_replicate_false _ _)] at hl; cases hl), rfl, rfl,
     fun i d hi hl => (by rw [getD_in (by simp; omega) (getD_replicate_false _ _)] at hl; cases hl), fun _ _ => rfl, fun i hi hl => (by rw [getD_in (by simp; omega) (getD_replicate_false _ _)] at hl; cases hl), h0⟩
  rw [show n + (l.length - n) = l.toArray.size by simp; omega] at this
  exact this
theorem wp_region_relKF {id : Nat} {l : List Oper} {n : Nat} {sp : List (RK Rl)} {a0 : Act} {w0 : World} {fl : List Nat} {Q : Exit → Act → World → Prop} (C : Nat → World → Prop) (hm : P.follows .mixedOrders = true) (hR : RelOKK l n sp a0 fl) (hFB : fltB .any l n fl = true) (hQ : ∀ c a d v w, Q (.panic c) (a.put d v) w → Q (.panic c) a w) (hC : ∀ m w, C (m + 1) w → C m w) (hrf : ∀ w, Rl w w) (h0 : C n w0.drew)
    (hflt : RFltsK P l n sp a0 C fl)
    (hstep : RStepsK P l n sp a0 C (l.take n) 0)
    (hend : ∀ V w, C 0 w → (∀ i, i < n → factK sp V w i) → wpAny P .any l.toArray Q (l.length - n) (headDone l n) (putAll V (l.take n) 0 a0) w) :
    (Code.region id l.toArray true).wp P Q a0 w0 := by
  refine wp_region_any hm ?_
  have hle := hR.le
  have := wpAny_relK hR (.inr ⟨hFB, hQ⟩) hC (fun i o hi ho m V τ w hc hf ht h0 => RFltsK.get fl hflt i hi o ho m V τ w hc hf ht (fun t ht' => h0 t fun j hj e => by
      have := List.all_eq_true.1 ht' j (List.mem_range.2 hj)
      rw [e] at this
      simp at this)) (fun i o hi ho m V τ w hc hf ht h0 => by
    have := RStepsK.get _ _ hstep i o (by rw [List.getElem?_take, if_pos hi]; exact ho)
    rw [Nat.zero_add] at this
    exact this m V τ w hc hf ht (fun t ht' => h0 t fun j hj e => by
      have := List.all_eq_true.1 ht' j (List.mem_range.2 hj)
      rw [e] at this
      simp at this)) hrf hend n (fun _ => undef) (Array.replicate l.toArray.size false) a0 w0.drew (cntU_none _ _ (by simpa using hle))
    ⟨by simp, fun t _ htl => getD_in (by simpa using htl) (getD_replicate_false _ _), fun i o hi _ hl => (by rw [getD_in (by simp; omega) (getD_replicate_false _ _)] at hl; cases hl), rfl, rfl,
     fun i d hi hl => (by rw [getD_in (by simp; omega) (getD_replicate_false _ _)] at hl; cases hl), fun _ _ => rfl, fun i hi hl => (by rw [getD_in (by simp; omega) (getD_replicate_false _ _)] at hl; cases hl), h0⟩
  rw [show n + (l.length - n) = l.toArray.size by simp; omega] at this
  exact this
theorem wp_region_relKT {id : Nat} {l : List Oper} {n : Nat} {sp : List (RK Rl)} {a0 : Act} {w0 : World} {Q : Exit → Act → World → Prop} (ts : List Nat) (C : Nat → World → Prop) (hm : P.follows .mixedOrders = true) (hR : RelOKK l n sp a0) (hT : tailB l n ts = true) (hC : ∀ m w, C (m + 1) w → C m w) (hrf : ∀ w, Rl w w) (h0 : C n w0.drew)
    (hstep : RStepsK P l n sp a0 C (l.take n) 0)
    (hend : ∀ V w, C 0 w → (∀ i, i < n → factK sp V w i) → wpList P l.toArray Q (nths l ts) (putAll V (l.take n) 0 a0) w) :
    (Code.region id l.toArray true).wp P Q a0 w0 :=
  wp_region_relK C hm hR hC hrf h0 hstep (fun V w hc hf => wpAny_tail hT (hend V w hc hf))
theorem wp_region_relKFT {id : Nat} {l : List Oper} {n : Nat} {sp : List (RK Rl)} {a0 : Act} {w0 : World} {fl : List Nat} {Q : Exit → Act → World → Prop} (ts : List Nat) (C : Nat → World → Prop) (hm : P.follows .mixedOrders = true) (hR : RelOKK l n sp a0 fl) (hFB : fltB .any l n fl = true) (hQ : ∀ c a d v w, Q (.panic c) (a.put d v) w → Q (.panic c) a w)
    (hT : tailB l n ts = true) (hC : ∀ m w, C (m + 1) w → C m w) (hrf : ∀ w, Rl w w) (h0 : C n w0.drew) (hflt : RFltsK P l n sp a0 C fl)
    (hstep : RStepsK P l n sp a0 C (l.take n) 0)
    (hend : ∀ V w, C 0 w → (∀ i, i < n → factK sp V w i) → wpList P l.toArray Q (nths l ts) (putAll V (l.take n) 0 a0) w) :
    (Code.region id l.toArray true).wp P Q a0 w0 :=
  wp_region_relKF C hm hR hFB hQ hC hrf h0 hflt hstep (fun V w hc hf => wpAny_tail hT (hend V w hc hf))
end
end Go.Proofs.YtjpdebgejlfeaaaDoor
/- The law of Rel for a region that makes several things in memory: they are apart, in whatever order they came. -/
namespace Go.Proofs.YtjpdebgejlfeaaaDoor
open Go.RowKit

section
variable {P : Program}
end
end Go.Proofs.YtjpdebgejlfeaaaDoor
