/- A region that draws its order: some operations have been taken already; the rest of the head may come in any order, a tail behind it in one order. One load may be wanted by the tail alone: it may come before or behind the operation that begins the tail. -/
import Derived.Test.YtjpdebgejlfeaaaDoorTail
namespace Go.Proofs.YtjpdebgejlfeaaaDoor
open Go.RowKit

section
variable {P : Program} {ops : Array Oper} {md : Region.Mode} {C : World → Prop}

/-- Where the head is being worked off: S0 had been listed when it began. -/
structure HInv (md : Region.Mode) (ops : Array Oper) (S0 : Array Bool) (n : Nat) (listed : Array Bool) : Prop where
  size : listed.size = ops.size
  closed : ∀ j oj, ops[j]? = some oj → listed.getD j false = true → ∀ e ∈ oj.after, Region.binds md e = true → listed.getD e.on false = true
  tail : ∀ t, n ≤ t → t < ops.size → S0.getD t false = false → listed.getD t true = false
  sub : ∀ i, S0.getD i false = true → listed.getD i false = true
theorem HInv.set {n i : Nat} {S0 listed : Array Bool} (inv : HInv md ops S0 n listed) (hi : i ∈ Region.ready md ops listed) (hin : i < n) : HInv md ops S0 n (listed.setIfInBounds i true) := by
  obtain ⟨_, oi, hoi, hall⟩ := mem_ready.1 hi
  refine ⟨by simp [inv.size], fun j oj hj hl e he hb => ?_, fun t ht ht' h0 => by rw [getD_set_ne true (by omega)]; exact inv.tail t ht ht' h0, fun x hx => getD_set_true (inv.sub x hx)⟩
  by_cases hij : i = j
  · subst hij
    have : oj = oi := Option.some.inj (hj.symm.trans hoi)
    subst this
    exact getD_set_true (hall e he hb)
  · rw [getD_set_ne false hij] at hl
    exact getD_set_true (inv.closed j oj hj hl e he hb)
def sinkS (md : Region.Mode) (ops : Array Oper) (S0 : Array Bool) (n : Nat) : Bool :=
  (List.range n).all fun i => S0.getD i false || (List.range (n + 1)).any fun j => decide (i < j) && Region.waitsFor md ops j i
/-- What stands behind n in the tail waits for an operation of the tail. -/
def chainS (md : Region.Mode) (ops : Array Oper) (S0 : Array Bool) (n : Nat) : Bool :=
  (List.range ops.size).all fun t => decide (t ≤ n) || (S0.getD t false || (List.range t).any fun u => decide (n ≤ u) && (!(S0.getD u false) && Region.waitsFor md ops t u))
theorem tail_off {n : Nat} {S0 listed : Array Bool} (hc : chainS md ops S0 n = true) (inv : HInv md ops S0 n listed) {t : Nat} (ht : n < t) : t ∉ Region.ready md ops listed := by
  intro hr
  obtain ⟨hun, ot, hot, hall⟩ := mem_ready.1 hr
  have htlt : t < ops.size := (Array.getElem?_eq_some_iff.1 hot).1
  have h1 := List.all_eq_true.1 hc t (List.mem_range.2 htlt)
  simp only [Bool.or_eq_true, decide_eq_true_eq] at h1
  rcases h1 with h1 | h1 | h1
  · omega
  · have := inv.sub t h1
    rw [getD_both hun] at this
    cases this
  · obtain ⟨u, hu, hu2⟩ := List.any_eq_true.1 h1
    simp only [Bool.and_eq_true, decide_eq_true_eq, Bool.not_eq_true'] at hu2
    have hut := List.mem_range.1 hu
    obtain ⟨o', ho', e, he, hb, hon⟩ := Region.waitsFor_spec hu2.2.2
    have : o' = ot := Option.some.inj (ho'.symm.trans hot)
    subst this
    have h2 := hall e he hb
    rw [hon, getD_both (inv.tail u hu2.1 (by omega) hu2.2.1)] at h2
    cases h2
theorem tail_waitsS {n : Nat} {S0 listed : Array Bool} (hs : sinkS md ops S0 n = true) (hc : chainS md ops S0 n = true) (hn : n < ops.size) (inv : HInv md ops S0 n listed) :
    ∀ (d i : Nat), n - i = d → i < n → listed.getD i true = false → ∀ t, n ≤ t → t ∉ Region.ready md ops listed := by
  intro d
  induction d using Nat.strongRecOn with
  | _ d ih =>
    intro i hd hi hun t ht hr
    by_cases htn : t = n
    · obtain ⟨_, ot, hot, hall⟩ := mem_ready.1 hr
      subst htn
      have h1 := List.all_eq_true.1 hs i (List.mem_range.2 hi)
      rw [Bool.or_eq_true] at h1
      rcases h1 with h1 | h1
      · have := inv.sub i h1
        rw [getD_both hun] at this
        cases this
      obtain ⟨j, hj, hj2⟩ := List.any_eq_true.1 h1
      simp only [Bool.and_eq_true, decide_eq_true_eq] at hj2
      obtain ⟨oj, hoj, e, he, hb, hon⟩ := Region.waitsFor_spec hj2.2
      have hjle : j ≤ t := by have := List.mem_range.1 hj; omega
      by_cases hjt : j = t
      · subst hjt
        have : oj = ot := Option.some.inj (hoj.symm.trans hot)
        subst this
        have h2 := hall e he hb
        rw [hon, getD_both hun] at h2
        cases h2
      · cases hl : listed.getD j false with
        | true =>
          have h2 := inv.closed j oj hoj hl e he hb
          rw [hon, getD_both hun] at h2
          cases h2
        | false =>
          have hjs : j < listed.size := by rw [inv.size]; omega
          exact ih (t - j) (by omega) j rfl (by omega) (getD_in hjs hl) t (Nat.le_refl _) hr
    · exact tail_off hc inv (by omega) hr
theorem wpHeadQ_firstS {n i : Nat} {oi : Oper} {v : Value} {S0 : Array Bool} {L : Array Bool → Act → Prop} (hi : ops[i]? = some oi) (hsel : ∀ (j : Nat) (o : Oper) cs b, ops[j]? = some o → o.op ≠ .select cs b)
    (hs : sinkS md ops S0 n = true) (hc : chainS md ops S0 n = true) (hn : n < ops.size) (hin : i < n)
    (hdone : ∀ listed a, L listed a → ∀ j ∈ Region.ready md ops listed, n ≤ j) :
    ∀ (f : Nat) (listed : Array Bool) (a : Act), HInv md ops S0 n listed →
      (∀ j oj, ops[j]? = some oj → j ≠ i → listed.getD j true = false → (∀ e ∈ oj.after, Region.binds md e = true → e.on ≠ i) → oi.apart ops oj = true) →
      i ∈ Region.ready md ops listed → YieldsIn P ops C oi v a →
      wpHeadQ P md ops C n L f (listed.setIfInBounds i true) (a.put oi.dst v) → wpHeadQ P md ops C n L (f + 1) listed a := by
  intro f
  induction f with
  | zero =>
    intro listed a inv _ hr hy H
    have hun := (mem_ready.1 hr).1
    refine ⟨fun h => (by rw [h] at hr; cases hr), fun j hj => ?_⟩
    have hjn : j < n := by
      rcases Nat.lt_or_ge j n with h | h
      · exact h
      · exact absurd hj (tail_waitsS hs hc hn inv _ i rfl hin hun j h)
    refine ⟨hjn, ?_⟩
    by_cases hji : j = i
    · subst hji; exact hy.qOp hi H
    · have := hdone _ _ H j (ready_mono hj hji)
      omega
  | succ f ih =>
    intro listed a inv hfree hr hy H
    have hun := (mem_ready.1 hr).1
    refine ⟨fun h => (by rw [h] at hr; cases hr), fun j hj => ?_⟩
    have hjn : j < n := by
      rcases Nat.lt_or_ge j n with h | h
      · exact h
      · exact absurd hj (tail_waitsS hs hc hn inv _ i rfl hin hun j h)
    refine ⟨hjn, ?_⟩
    by_cases hji : j = i
    · subst hji; exact hy.qOp hi H
    · have h1 := (H.2 j (ready_mono hj hji)).2
      obtain ⟨hjun, oj, hoj, hall⟩ := mem_ready.1 hj
      have hnot : ∀ e ∈ oj.after, Region.binds md e = true → e.on ≠ i := fun e he hb heq => by
        have h1 := hall e he hb
        rw [heq, getD_both hun] at h1
        cases h1
      have h2 := qOp_put hoj (hfree j oj hoj hji hjun hnot) (fun cs b => hsel i oi cs b hi) (fun cs b => hsel j oj cs b hoj) hy h1
      have hfree' : ∀ k ok, ops[k]? = some ok → k ≠ i → (listed.setIfInBounds j true).getD k true = false →
          (∀ e ∈ ok.after, Region.binds md e = true → e.on ≠ i) → oi.apart ops ok = true := fun k ok hk hki hun hno => by
        refine hfree k ok hk hki ?_ hno
        by_cases hjk : j = k
        · subst hjk; exact hjun
        · rw [getD_set_ne true hjk] at hun; exact hun
      refine qOp_mono (fun a' h3 => ih (listed.setIfInBounds j true) a' (inv.set hj hjn) hfree' (ready_mono hr (Ne.symm hji)) h3.1 ?_) h2
      rw [Array.setIfInBounds_comm _ _ hji]
      exact h3.2
/-- The tail: just one operation is ready each time. -/
def seqIx (md : Region.Mode) (ops : Array Oper) : List Nat → Array Bool → Bool
  | [], listed => (Region.ready md ops listed).isEmpty
  | t :: ts, listed => decide (Region.ready md ops listed = [t]) && seqIx md ops ts (listed.setIfInBounds t true)
theorem wpAny_of_seqIx {Q' : Exit → Act → World → Prop} : ∀ (ts : List Nat) (l : List Oper) (listed : Array Bool) (a : Act) (w : World), ts.map (fun k => ops[k]?) = l.map some →
    seqIx md ops ts listed = true → wpList P ops Q' l a w → wpAny P md ops Q' ts.length listed a w
  | [], [], listed, a, w, _, hB, h => ⟨by simpa [seqIx] using hB, h⟩
  | [], o :: l, _, _, _, hl, _, _ => by simp at hl
  | t :: ts, [], _, _, _, hl, _, _ => by simp at hl
  | t :: ts, o :: l, listed, a, w, hl, hB, h => by
    simp only [List.map_cons, List.cons.injEq] at hl
    simp only [seqIx, Bool.and_eq_true, decide_eq_true_eq] at hB
    refine ⟨fun h0 => absurd h0 (by rw [hB.1]; simp), fun j hj => ?_⟩
    rw [hB.1, List.mem_singleton] at hj
    subst hj
    have hK : ∀ a' w', wpList P ops Q' l a' w' → wpAny P md ops Q' ts.length (listed.setIfInBounds j true) a' w' := fun a' w' h' => wpAny_of_seqIx ts l _ a' w' hl.2 hB.2 h'
    have h1 : wpOp P ops Q' j (wpList P ops Q' l) a w := by unfold wpOp; simp only [hl.1]; exact h
    exact wpOp_mono hK h1
/-- The rest of the head in one order: each operation is ready and free of the others; then the tail. -/
def lexIx (md : Region.Mode) (ops : Array Oper) (n : Nat) (ts : List Nat) : List Nat → Array Bool → Bool
  | [], listed => seqIx md ops ts listed
  | k :: ks, listed => decide (k < n) && ((Region.ready md ops listed).contains k && (Region.free md ops listed k && lexIx md ops n ts ks (listed.setIfInBounds k true)))
theorem seqIx_ready {n : Nat} {ts : List Nat} {listed : Array Bool} (hts : (ts.all fun t => decide (n ≤ t)) = true) (h : seqIx md ops ts listed = true) : ∀ j ∈ Region.ready md ops listed, n ≤ j := by
  cases ts with
  | nil => intro j hj; simp only [seqIx, List.isEmpty_iff] at h; rw [h] at hj; cases hj
  | cons t ts =>
    intro j hj
    simp only [seqIx, Bool.and_eq_true, decide_eq_true_eq] at h
    rw [h.1, List.mem_singleton] at hj
    subst hj
    simp only [List.all_cons, Bool.and_eq_true, decide_eq_true_eq] at hts
    exact hts.1
theorem wpHeadQ_ix {n : Nat} {S0 : Array Bool} {ts : List Nat} {Lq : Act → Prop} (hsel : Region.noSelect ops = true) (hs : sinkS md ops S0 n = true) (hc : chainS md ops S0 n = true) (hn : n < ops.size) (hts : (ts.all fun t => decide (n ≤ t)) = true) :
    ∀ (ks : List Nat) (l : List Oper) (listed : Array Bool) (a : Act), ks.map (fun k => ops[k]?) = l.map some → HInv md ops S0 n listed →
    lexIx md ops n ts ks listed = true → wpQuiet P ops C Lq l a →
    wpHeadQ P md ops C n (fun listed' a' => seqIx md ops ts listed' = true ∧ Lq a') ks.length listed a
  | [], [], listed, a, _, _, hB, h => ⟨hB, h⟩
  | [], o :: l, _, _, hl, _, _, _ => by simp at hl
  | k :: ks, [], _, _, hl, _, _, _ => by simp at hl
  | k :: ks, o :: l, listed, a, hl, inv, hB, h => by
    simp only [List.map_cons, List.cons.injEq] at hl
    simp only [lexIx, Bool.and_eq_true, decide_eq_true_eq] at hB
    obtain ⟨hkn, hr, hf, hB'⟩ := hB
    have hr' : k ∈ Region.ready md ops listed := by simpa using hr
    have hst : qOp P ops C k (wpQuiet P ops C Lq l) a := by unfold qOp; simp only [hl.1]; exact h
    obtain ⟨v, hy, hK⟩ := yieldsIn_of_qOp hl.1 hst
    exact wpHeadQ_firstS hl.1 (Region.noSelect_spec hsel) hs hc hn hkn (fun listed' a' hL => seqIx_ready hts hL.1) ks.length listed a inv (Region.free_spec hl.1 hf) hr' hy
      (wpHeadQ_ix hsel hs hc hn hts ks l _ _ hl.2 (inv.set hr' hkn) hB' hK)
/-- All that is listed is closed; what is listed of the tail is listed in S0. -/
def headB (md : Region.Mode) (ops : Array Oper) (listed : Array Bool) : Bool :=
  decide (listed.size = ops.size) && ((List.range ops.size).all fun j => !(listed.getD j false) || match ops[j]? with | some oj => oj.after.all (fun e => !(Region.binds md e) || listed.getD e.on false) | none => true)
theorem headB_spec {n : Nat} {listed : Array Bool} (h : headB md ops listed = true) : HInv md ops listed n listed := by
  simp only [headB, Bool.and_eq_true, decide_eq_true_eq] at h
  obtain ⟨h1, h2⟩ := h
  rw [List.all_eq_true] at h2
  refine ⟨h1, fun j oj hoj hl e he hb => ?_, fun t _ hts h0 => getD_in (by omega) h0, fun _ h => h⟩
  have := h2 j (List.mem_range.2 (Array.getElem?_eq_some_iff.1 hoj).1)
  rw [hl] at this
  simp only [Bool.not_true, Bool.false_or] at this
  rw [hoj] at this
  have h4 := Array.all_eq_true_iff_forall_mem.1 this e he
  rw [hb] at h4
  simpa using h4
def nth1 : List Oper → Nat → Option Oper
  | [], _ => none
  | o :: _, 0 => some o
  | _ :: l, n + 1 => nth1 l n
def nths (l : List Oper) : List Nat → List Oper
  | [] => []
  | k :: ks => match nth1 l k with | some o => o :: nths l ks | none => nths l ks
theorem nth1_eq : ∀ (l : List Oper) (n : Nat), nth1 l n = l[n]?
  | [], _ => by simp [nth1]
  | o :: l, 0 => rfl
  | o :: l, n + 1 => by rw [nth1, nth1_eq l n]; simp
theorem nths_eq (l : List Oper) : ∀ ks : List Nat, (ks.all fun k => decide (k < l.length)) = true → ks.map (fun k => l.toArray[k]?) = (nths l ks).map some
  | [], _ => rfl
  | k :: ks, h => by
    simp only [List.all_cons, Bool.and_eq_true, decide_eq_true_eq] at h
    rw [nths, nth1_eq, List.getElem?_eq_getElem h.1]
    simp only [List.map_cons]
    rw [nths_eq l ks h.2]
    simp [h.1]
theorem wpAny_ix {Q : Exit → Act → World → Prop} {a : Act} {w0 w : World} (hw : Ext w0 w) {f : Nat} {l : List Oper} {S0 : Array Bool} (n : Nat) (ks ts : List Nat)
    (hB : ((ks.all fun k => decide (k < l.length)) && ((ts.all fun k => decide (k < l.length)) && ((ts.all fun t => decide (n ≤ t)) && (Region.noSelect l.toArray && (decide (n < l.toArray.size) && (sinkS .any l.toArray S0 n && (chainS .any l.toArray S0 n && (headB .any l.toArray S0 && lexIx .any l.toArray n ts ks S0)))))))) = true)
    (hf : f = ks.length + ts.length)
    (h : wpQuiet P l.toArray (fun w' => Ext w0 w') (fun a' => ∀ w', Ext w0 w' → wpList P l.toArray Q (nths l ts) a' w') (nths l ks) a) : wpAny P .any l.toArray Q f S0 a w := by
  subst hf
  simp only [Bool.and_eq_true, decide_eq_true_eq] at hB
  obtain ⟨hk, ht, hts, hsel, hn, hs, hc, hi, hlex⟩ := hB
  have hh := nths_eq l ks hk
  have hh2 := nths_eq l ts ht
  have H := wpHeadQ_ix (P := P) (md := .any) (C := fun w' => Ext w0 w') (S0 := S0) (ts := ts) hsel hs hc hn hts ks (nths l ks) S0 a hh (headB_spec hi) hlex h
  exact wpAny_of_headQ (Q' := Q) (g := ts.length) (fun listed' a' w' hw' hL => wpAny_of_seqIx (md := .any) (Q' := Q) ts (nths l ts) listed' a' w' hh2 hL.1 (hL.2 w' hw')) _ _ _ _ hw H

/-- It yields v in every world of the class, and leaves the world as it is. -/
def YS (P : Program) (ops : Array Oper) (C : World → Prop) (o : Oper) (v : Value) (a : Act) : Prop :=
  Region.wanted o (yielded ops a.tmps) = true ∧ ∀ w, C w → (execOp a.eval o).run P w = .ok (.value v) w
theorem ys_in {o : Oper} {v : Value} {a : Act} (h : YS P ops C o v a) : YieldsIn P ops C o v a := .inl ⟨h.1, fun w hw => by unfold Oper.quietAt; rw [h.2 w hw]; exact ⟨rfl, rfl⟩⟩
theorem ys_same {o : Oper} {v : Value} {a a' : Act} (hy : YS P ops C o v a) (he : execOp a'.eval o = execOp a.eval o)
    (hw : Region.wanted o (yielded ops a'.tmps) = Region.wanted o (yielded ops a.tmps)) : YS P ops C o v a' := by
  unfold YS at *
  rw [he, hw]
  exact hy
theorem ys_wp {i : Nat} {oi : Oper} {v : Value} {a : Act} {w : World} {Q : Exit → Act → World → Prop} {K : Act → World → Prop} (hi : ops[i]? = some oi) (hy : YS P ops C oi v a) (hw : C w) (h : K (a.put oi.dst v) w) : wpOp P ops Q i K a w := by
  unfold wpOp
  simp only [hi, hy.1, if_true]
  left
  unfold Oper.wp
  rw [hy.2 w hw]
  exact h
/-- What stands behind n in the tail waits for i, or for an operation of the tail behind n. -/
def chainF (md : Region.Mode) (ops : Array Oper) (S0 : Array Bool) (n i : Nat) : Bool :=
  (List.range ops.size).all fun t => decide (t ≤ n) || (S0.getD t false || (Region.waitsFor md ops t i || (List.range t).any fun u => decide (n < u) && (!(S0.getD u false) && Region.waitsFor md ops t u)))
theorem wpAny_float {n g i : Nat} {oi on : Oper} {v : Value} {S1 : Array Bool} {Q : Exit → Act → World → Prop} {L : Array Bool → Act → Prop} (hi : ops[i]? = some oi) (hon : ops[n]? = some on) (hsel : ∀ (j : Nat) (o : Oper) cs b, ops[j]? = some o → o.op ≠ .select cs b) (hin : i < n)
    (hs : sinkS md ops S1 n = true) (hc : chainS md ops S1 n = true) (hn : n < ops.size) (hwait : chainF md ops S1 n i = true) (hgd : on.guard = none)
    (hL : ∀ listed a w, C w → L listed a → wpAny P md ops Q (g + 1) listed a w)
    (hLn : ∀ listed a w, C w → L listed a → ∃ u w', (execOp a.eval on).run P w = .ok (.value u) w' ∧ C w' ∧ wpAny P md ops Q g (listed.setIfInBounds n true) (a.put on.dst u) w')
    (hdone : ∀ listed a, L listed a → ∀ j ∈ Region.ready md ops listed, n ≤ j) :
    ∀ (f : Nat) (listed : Array Bool) (a : Act) (w : World), C w → HInv md ops S1 n (listed.setIfInBounds i true) →
      (∀ j oj, ops[j]? = some oj → j ≠ i → listed.getD j true = false → (∀ e ∈ oj.after, Region.binds md e = true → e.on ≠ i) → oi.apart ops oj = true) →
      i ∈ Region.ready md ops listed → YS P ops C oi v a →
      wpHeadQ P md ops C n L f (listed.setIfInBounds i true) (a.put oi.dst v) → wpAny P md ops Q (f + 1 + (g + 1)) listed a w := by
  intro f
  induction f with
  | zero =>
    intro listed a w hw inv1 hfree hr hy H
    have H : L (listed.setIfInBounds i true) (a.put oi.dst v) := H
    have hun := (mem_ready.1 hr).1
    rw [show 0 + 1 + (g + 1) = (g + 1) + 1 by omega]
    refine ⟨fun h => absurd h (by intro h; rw [h] at hr; cases hr), fun j hj => ?_⟩
    by_cases hji : j = i
    · subst hji
      exact ys_wp hi hy hw (hL _ _ _ hw H)
    · have hj1 := ready_mono hj hji
      have hnj := hdone _ _ H j hj1
      obtain ⟨hjun, oj, hoj, hall⟩ := mem_ready.1 hj
      have hjs : j < ops.size := (Array.getElem?_eq_some_iff.1 hoj).1
      have hjn : j = n := by
        by_cases e : j = n
        · exact e
        · exact absurd hj1 (tail_off hc inv1 (by omega))
      subst hjn
      have : oj = on := Option.some.inj (hoj.symm.trans hon)
      subst this
      have hnot : ∀ e ∈ oj.after, Region.binds md e = true → e.on ≠ i := fun e he hb heq => by
        have k1 := hall e he hb
        rw [heq, getD_both hun] at k1
        cases k1
      have hap := hfree j oj hoj hji hjun hnot
      obtain ⟨a1, a2, a3⟩ := Oper.apart_spec hap
      obtain ⟨u, w', hrun, hw', hK⟩ := hLn _ _ w hw H
      rw [execOp_put oj (fun cs b => hsel j oj cs b hoj) a oi.dst v a1] at hrun
      have hwant : Region.wanted oj (yielded ops a.tmps) = true := by simp [Region.wanted, hgd]
      unfold wpOp
      simp only [hoj, hwant, if_true]
      left
      unfold Oper.wp
      rw [hrun, Oper.upon_value]
      -- i is the one operation that is ready now
      have hr2 := ready_mono hr (Ne.symm hji)
      refine ⟨fun h => absurd h (by intro h; rw [h] at hr2; cases hr2), fun x hx => ?_⟩
      have hxi : x = i := by
        by_cases e : x = i
        · exact e
        · exfalso
          obtain ⟨hxun, ox, hox, hxall⟩ := mem_ready.1 hx
          have hxs : x < ops.size := (Array.getElem?_eq_some_iff.1 hox).1
          have hxj : x ≠ j := fun e => by
            subst e
            have hls : x < listed.size := by have := inv1.size; simp at this; omega
            simp [hls] at hxun
          rw [getD_set_ne true (Ne.symm hxj)] at hxun
          have k1 : (listed.setIfInBounds i true).getD x true = false := by rw [getD_set_ne true (Ne.symm e)]; exact hxun
          by_cases hxn : x < j
          · exact tail_waitsS hs hc hn inv1 _ x rfl hxn k1 j (Nat.le_refl _) hj1
          · have k2 := List.all_eq_true.1 hwait x (List.mem_range.2 hxs)
            simp only [Bool.or_eq_true, decide_eq_true_eq] at k2
            rcases k2 with k2 | k2 | k2 | k2
            · omega
            · have := inv1.sub x k2
              rw [getD_both k1] at this
              cases this
            · obtain ⟨o', ho', e', he', hb', hon'⟩ := Region.waitsFor_spec k2
              have : o' = ox := Option.some.inj (ho'.symm.trans hox)
              subst this
              have k3 := hxall e' he' hb'
              rw [hon', getD_set_ne false (by omega), getD_both hun] at k3
              cases k3
            · obtain ⟨t, ht, ht2⟩ := List.any_eq_true.1 k2
              simp only [Bool.and_eq_true, decide_eq_true_eq, Bool.not_eq_true'] at ht2
              have htx := List.mem_range.1 ht
              obtain ⟨o', ho', e', he', hb', hon'⟩ := Region.waitsFor_spec ht2.2.2
              have : o' = ox := Option.some.inj (ho'.symm.trans hox)
              subst this
              have k3 := hxall e' he' hb'
              have k4 := inv1.tail t (by omega) (by omega) ht2.2.1
              rw [getD_set_ne true (by omega)] at k4
              rw [hon', getD_set_ne false (by omega), getD_both k4] at k3
              cases k3
      subst hxi
      have hy2 : YS P ops C oi v (a.put oj.dst u) := ys_same hy (execOp_put oi (fun cs b => hsel x oi cs b hi) a oj.dst u a3) (wanted_put oi a oj.dst u a3)
      refine ys_wp hi hy2 hw' ?_
      rw [← Act.put_comm a v u a2, Array.setIfInBounds_comm _ _ hji]
      exact hK
  | succ f ih =>
    intro listed a w hw inv1 hfree hr hy H
    have hun := (mem_ready.1 hr).1
    rw [show f + 1 + 1 + (g + 1) = (f + 1 + (g + 1)) + 1 by omega]
    refine ⟨fun h => absurd h (by intro h; rw [h] at hr; cases hr), fun j hj => ?_⟩
    by_cases hji : j = i
    · subst hji
      refine ys_wp hi hy hw ?_
      have := wpAny_of_headQ (Q' := Q) (g := g + 1) (fun listed' a' w' hw' hL' => hL listed' a' w' hw' hL') (f + 1) _ _ w hw H
      exact this
    · have hj1 := ready_mono hj hji
      obtain ⟨hjn, h2⟩ := H.2 j hj1
      obtain ⟨hjun, oj, hoj, hall⟩ := mem_ready.1 hj
      have hnot : ∀ e ∈ oj.after, Region.binds md e = true → e.on ≠ i := fun e he hb heq => by
        have k1 := hall e he hb
        rw [heq, getD_both hun] at k1
        cases k1
      have hap := hfree j oj hoj hji hjun hnot
      obtain ⟨a1, a2, a3⟩ := Oper.apart_spec hap
      have h3 := qOp_put (P := P) (ops := ops) (C := C) (oi := oi) (v := v) hoj hap (fun cs b => hsel i oi cs b hi) (fun cs b => hsel j oj cs b hoj) (ys_in hy) h2
      have hfree' : ∀ k ok, ops[k]? = some ok → k ≠ i → (listed.setIfInBounds j true).getD k true = false →
          (∀ e ∈ ok.after, Region.binds md e = true → e.on ≠ i) → oi.apart ops ok = true := fun k ok hk hki hun hno => by
        refine hfree k ok hk hki ?_ hno
        by_cases hjk : j = k
        · subst hjk; exact hjun
        · rw [getD_set_ne true hjk] at hun; exact hun
      -- behind operation j: what i yields is as before
      have key : ∀ u, YS P ops C oi v (a.put oj.dst u) := fun u => ys_same hy (execOp_put oi (fun cs b => hsel i oi cs b hi) a oj.dst u a3) (wanted_put oi a oj.dst u a3)
      have h4 : qOp P ops C j (fun a' => YS P ops C oi v a' ∧ wpHeadQ P md ops C n L f ((listed.setIfInBounds i true).setIfInBounds j true) (a'.put oi.dst v)) a := by
        unfold qOp at h3 ⊢
        simp only [hoj] at h3 ⊢
        split at h3
        · rename_i hwj
          rw [if_pos hwj]
          obtain ⟨u, q1, q2⟩ := h3
          exact ⟨u, q1, key u, q2.2⟩
        · rename_i hwj
          rw [if_neg hwj]
          exact ⟨key undef, h3.2⟩
      refine wpOp_of_qOp hw (fun a' w' hw' h5 => ih (listed.setIfInBounds j true) a' w' hw' (by rw [Array.setIfInBounds_comm _ _ hji]; exact inv1.set hj1 hjn) hfree' (ready_mono hr (Ne.symm hji)) h5.1 ?_) h4
      rw [Array.setIfInBounds_comm _ _ hji]
      exact h5.2
theorem wpAny_ixF {Q : Exit → Act → World → Prop} {a : Act} {w0 w : World} (hw : Ext w0 w) {f : Nat} {l : List Oper} {S0 : Array Bool} {oi on : Oper} (n i : Nat) (ks ts : List Nat) (v : Value)
    (hi : nth1 l i = some oi) (hon : nth1 l n = some on)
    (hB : ((ks.all fun k => decide (k < l.length)) && (((n :: ts).all fun k => decide (k < l.length)) && (((n :: ts).all fun t => decide (n ≤ t)) && (Region.noSelect l.toArray && (decide (n < l.toArray.size) && (decide (i < n) && (sinkS .any l.toArray (S0.setIfInBounds i true) n && (chainS .any l.toArray (S0.setIfInBounds i true) n && (headB .any l.toArray (S0.setIfInBounds i true) && (lexIx .any l.toArray n (n :: ts) ks (S0.setIfInBounds i true) &&
      (chainF .any l.toArray (S0.setIfInBounds i true) n i && (on.guard.isNone && (Region.free .any l.toArray S0 i && (Region.ready .any l.toArray S0).contains i))))))))))))) = true)
    (hf : f = ks.length + 1 + (ts.length + 1)) (hy : YS P l.toArray (fun w' => Ext w0 w') oi v a)
    (h : wpQuiet P l.toArray (fun w' => Ext w0 w') (fun a' => ∀ w', Ext w0 w' → ∃ u w'', (execOp a'.eval on).run P w' = .ok (.value u) w'' ∧ Ext w0 w'' ∧ wpList P l.toArray Q (nths l ts) (a'.put on.dst u) w'') (nths l ks) (a.put oi.dst v)) : wpAny P .any l.toArray Q f S0 a w := by
  subst hf
  simp only [Bool.and_eq_true, decide_eq_true_eq] at hB
  obtain ⟨hk, ht, hts, hsel, hn, hin, hs, hc, hh0, hlex, hwait, hgd, hfr, hrd⟩ := hB
  have hi : l.toArray[i]? = some oi := by rw [nth1_eq] at hi; simpa using hi
  have hon : l.toArray[n]? = some on := by rw [nth1_eq] at hon; simpa using hon
  have hgd' : on.guard = none := by simpa using hgd
  have hh := nths_eq l ks hk
  have hh2 := nths_eq l ts (by simp only [List.all_cons, Bool.and_eq_true] at ht; exact ht.2)
  have inv1 := headB_spec (n := n) hh0
  have hr : i ∈ Region.ready .any l.toArray S0 := by simpa using hrd
  have H := wpHeadQ_ix (P := P) (md := .any) (C := fun w' => Ext w0 w') (S0 := S0.setIfInBounds i true) (ts := n :: ts) hsel hs hc hn hts ks (nths l ks) (S0.setIfInBounds i true) (a.put oi.dst v) hh inv1 hlex h
  have hLn : ∀ (listed : Array Bool) (a : Act) (w : World), Ext w0 w → (seqIx .any l.toArray (n :: ts) listed = true ∧ ∀ w', Ext w0 w' → ∃ u w'', (execOp a.eval on).run P w' = .ok (.value u) w'' ∧ Ext w0 w'' ∧ wpList P l.toArray Q (nths l ts) (a.put on.dst u) w'') →
      ∃ u w', (execOp a.eval on).run P w = .ok (.value u) w' ∧ Ext w0 w' ∧ wpAny P .any l.toArray Q ts.length (listed.setIfInBounds n true) (a.put on.dst u) w' := fun listed a w hw hL => by
    obtain ⟨u, w', q1, q2, q3⟩ := hL.2 w hw
    have hq := hL.1
    simp only [seqIx, Bool.and_eq_true, decide_eq_true_eq] at hq
    exact ⟨u, w', q1, q2, wpAny_of_seqIx (md := .any) (Q' := Q) ts (nths l ts) (listed.setIfInBounds n true) (a.put on.dst u) w' hh2 hq.2 q3⟩
  exact wpAny_float (P := P) (md := .any) (C := fun w' => Ext w0 w') (g := ts.length) (S1 := S0.setIfInBounds i true) hi hon (Region.noSelect_spec hsel) hin hs hc hn hwait hgd'
    (fun listed a w hw hL => by
      have hq := hL.1
      simp only [seqIx, Bool.and_eq_true, decide_eq_true_eq] at hq
      obtain ⟨u, w', q1, q2, q3⟩ := hLn listed a w hw hL
      refine ⟨fun h => absurd h (by rw [hq.1]; simp), fun j hj => ?_⟩
      rw [hq.1, List.mem_singleton] at hj
      subst hj
      have hwant : Region.wanted on (yielded l.toArray a.tmps) = true := by simp [Region.wanted, hgd']
      unfold wpOp
      simp only [hon, hwant, if_true]
      left
      unfold Oper.wp
      rw [q1, Oper.upon_value]
      exact q3)
    hLn (fun listed' a' hL => seqIx_ready hts hL.1) ks.length S0 a w hw inv1 (Region.free_spec hi hfr) hr hy H
end
end Go.Proofs.YtjpdebgejlfeaaaDoor
/- A load floats: one operation yields the same value in every world of a class; the others come in one order, each up to the first that waits for the load leads into a world of the class. -/
namespace Go.Proofs.YtjpdebgejlfeaaaDoor
open Go.RowKit

section
variable {P : Program} {ops : Array Oper} {md : Region.Mode} {C : World → Prop} {Q : Exit → Act → World → Prop}
/-- The chain, each step into a world of the class; then the tail. -/
def wpSeqC (P : Program) (ops : Array Oper) (Q : Exit → Act → World → Prop) (C : World → Prop) (tl : List Oper) : List Oper → Act → World → Prop
  | [], a, w => wpList P ops Q tl a w
  | o :: l, a, w => o.wp P a w (fun a' w' => C w' ∧ wpSeqC P ops Q C tl l a' w') Q
theorem wpSeqC_cons {tl l : List Oper} {o : Oper} {a : Act} {w : World} (h : ∀ K : Act → World → Prop, (∀ a w, C w → wpSeqC P ops Q C tl l a w → K a w) → o.wp P a w K Q) : wpSeqC P ops Q C tl (o :: l) a w :=
  h _ fun _ _ h1 h2 => ⟨h1, h2⟩
theorem wpSeqC_nil {tl : List Oper} {a : Act} {w : World} (h : wpList P ops Q tl a w) : wpSeqC P ops Q C tl [] a w := h
theorem wpSeqC_list {tl : List Oper} : ∀ (l : List Oper) (a : Act) (w : World), (l.all fun o => o.guard.isNone) = true → wpSeqC P ops Q C tl l a w → wpList P ops Q (l ++ tl) a w
  | [], _, _, _, h => h
  | o :: l, a, w, hg, h => by
    simp only [List.all_cons, Bool.and_eq_true] at hg
    have hgd : o.guard = none := by simpa using hg.1
    refine wpList_plain hgd fun K hK => ?_
    exact Oper.wp_mono (fun a' w' h' => hK a' w' (wpSeqC_list l a' w' hg.2 h'.2)) h
theorem wpOp_putS {j : Nat} {oi oj : Oper} {v : Value} (hj : ops[j]? = some oj) (hap : oi.apart ops oj = true)
    (hsi : ∀ cs b, oi.op ≠ .select cs b) (hsj : ∀ cs b, oj.op ≠ .select cs b)
    (hQ : ∀ c a w, Q (.panic c) (a.put oi.dst v) w → Q (.panic c) a w) {K : Act → World → Prop} {a : Act} {w : World}
    (hy : YS P ops C oi v a) (h : wpOp P ops Q j K (a.put oi.dst v) w) :
    wpOp P ops Q j (fun a' w' => YS P ops C oi v a' ∧ K (a'.put oi.dst v) w') a w := by
  obtain ⟨h1, h2, h3⟩ := Oper.apart_spec hap
  have keep : ∀ (a : Act), YS P ops C oi v a → ∀ u, YS P ops C oi v (a.put oj.dst u) := fun a hy u => ys_same hy (execOp_put oi hsi a oj.dst u h3) (wanted_put oi a oj.dst u h3)
  unfold wpOp at *
  simp only [hj] at *
  rw [wanted_put oj a oi.dst v h1] at h
  by_cases hw : Region.wanted oj (yielded ops a.tmps) = true
  · simp only [hw, if_true] at h ⊢
    rcases h with h | ⟨hasks, hlets⟩
    · left
      unfold Oper.wp at *
      rw [execOp_put oj hsj a oi.dst v h1] at h
      generalize (execOp a.eval oj).run P w = r at *
      cases r with
      | halt x w' =>
        cases x <;> simp only [Oper.upon] at h ⊢
        case panic u => exact hQ _ _ _ h
      | ok n w' =>
        cases n <;> simp only [Oper.upon] at h ⊢
        case value u => exact ⟨keep a hy u, by rw [← Act.put_comm a v u h2]; exact h⟩
        case skip => exact ⟨keep a hy _, by rw [← Act.put_comm a v undef h2]; exact h⟩
        case enter f args =>
          refine Calls.mono h fun e w'' he => ?_
          cases e with
          | returned u => exact ⟨keep a hy u, by rw [← Act.put_comm a v u h2]; exact he⟩
          | panicked c => exact hQ _ _ _ he
          | outgrown => exact he
        case row row args => exact Rows.mono h fun u w'' he => ⟨keep a hy u, by rw [← Act.put_comm a v u h2]; exact he⟩
        case defer d =>
          have hd : YS P ops C oi v { a with defers := d :: a.defers } := ys_same hy rfl rfl
          refine ⟨keep _ hd _, ?_⟩
          rw [← Act.put_comm _ v undef h2, ← Act.put_defers]
          exact h
    · exact .inr ⟨by unfold Oper.asks at *; rw [execOp_put oj hsj a oi.dst v h1] at hasks; exact hasks, hlets⟩
  · simp only [hw] at h ⊢
    exact ⟨keep a hy _, by rw [← Act.put_comm a v undef h2]; exact h⟩
theorem wpAny_flt_go {i t : Nat} {oi : Oper} {v : Value} {ts : List Nat} {tl : List Oper} (hi : ops[i]? = some oi) (hsel : ∀ (j : Nat) (o : Oper) cs b, ops[j]? = some o → o.op ≠ .select cs b)
    (hQ : ∀ c a w, Q (.panic c) (a.put oi.dst v) w → Q (.panic c) a w) (htl : (t :: ts).map (fun k => ops[k]?) = tl.map some) (hwait : Region.waitsFor md ops t i = true) :
    ∀ (cs : List Nat) (ls : List Oper) (listed : Array Bool) (a : Act) (w : World), cs.map (fun k => ops[k]?) = ls.map some → (ls.all fun o => o.guard.isNone) = true →
      seqIx md ops (cs ++ t :: ts) (listed.setIfInBounds i true) = true →
      (∀ j oj, ops[j]? = some oj → j ≠ i → listed.getD j true = false → (∀ e ∈ oj.after, Region.binds md e = true → e.on ≠ i) → oi.apart ops oj = true) →
      i ∈ Region.ready md ops listed → C w → YS P ops C oi v a → wpSeqC P ops Q C tl ls (a.put oi.dst v) w → wpAny P md ops Q (cs.length + (t :: ts).length + 1) listed a w
  | [], ls, listed, a, w, hls, hg, hs, hfree, hr, hw, hy, H => by
    obtain rfl : ls = [] := by cases ls with | nil => rfl | cons => simp at hls
    refine ⟨fun h0 => (by rw [h0] at hr; cases hr), fun j hj => ?_⟩
    by_cases hji : j = i
    · subst hji
      refine ys_wp hi hy hw ?_
      have := wpAny_of_seqIx (md := md) (Q' := Q) (t :: ts) tl _ _ _ htl hs H
      simpa using this
    · have hs' := hs
      simp only [List.nil_append, seqIx, Bool.and_eq_true, decide_eq_true_eq] at hs'
      have h1 := ready_mono hj hji
      rw [hs'.1, List.mem_singleton] at h1
      subst h1
      obtain ⟨-, o, ho, hall⟩ := mem_ready.1 hj
      obtain ⟨o', ho', e', he', hb', hon'⟩ := Region.waitsFor_spec hwait
      have : o' = o := Option.some.inj (ho'.symm.trans ho)
      subst this
      have k1 := hall e' he' hb'
      have hun := (mem_ready.1 hr).1
      rw [hon', getD_both hun] at k1
      cases k1
  | c :: cs, ls, listed, a, w, hls, hg, hs, hfree, hr, hw, hy, H => by
    cases ls with
    | nil => simp at hls
    | cons o ls =>
      have hls0 := hls
      simp only [List.map_cons, List.cons.injEq] at hls
      have hg0 := hg
      simp only [List.all_cons, Bool.and_eq_true] at hg
      have hs' := hs
      simp only [List.cons_append, seqIx, Bool.and_eq_true, decide_eq_true_eq] at hs'
      have hun := (mem_ready.1 hr).1
      refine ⟨fun h0 => (by rw [h0] at hr; cases hr), fun j hj => ?_⟩
      by_cases hji : j = i
      · subst hji
        refine ys_wp hi hy hw ?_
        have := wpAny_of_seqIx (md := md) (Q' := Q) ((c :: cs) ++ (t :: ts)) ((o :: ls) ++ tl) _ _ _ (by rw [List.map_append, List.map_append, hls0, htl]) hs (wpSeqC_list (o :: ls) _ _ hg0 H)
        rw [List.length_append] at this
        exact this
      · have h1 := ready_mono hj hji
        rw [hs'.1, List.mem_singleton] at h1
        subst h1
        obtain ⟨hjun, oj, hoj, hall⟩ := mem_ready.1 hj
        have hnot : ∀ e ∈ oj.after, Region.binds md e = true → e.on ≠ i := fun e he hb heq => by
          have k1 := hall e he hb
          rw [heq, getD_both hun] at k1
          cases k1
        have : oj = o := Option.some.inj (hoj.symm.trans hls.1)
        subst this
        have hgd : oj.guard = none := by simpa using hg.1
        have h2 : wpOp P ops Q j (fun a' w' => C w' ∧ wpSeqC P ops Q C tl ls a' w') (a.put oi.dst v) w := by
          unfold wpOp
          simp only [hoj, Region.wanted, hgd, if_true]
          exact .inl H
        have h3 := wpOp_putS hoj (hfree j oj hoj hji hjun hnot) (fun cs b => hsel i oi cs b hi) (fun cs b => hsel j oj cs b hoj) hQ hy h2
        have hfree' : ∀ k ok, ops[k]? = some ok → k ≠ i → (listed.setIfInBounds j true).getD k true = false →
            (∀ e ∈ ok.after, Region.binds md e = true → e.on ≠ i) → oi.apart ops ok = true := fun k ok hk hki hun hno => by
          refine hfree k ok hk hki ?_ hno
          by_cases hjk : j = k
          · subst hjk; exact hjun
          · rw [getD_set_ne true hjk] at hun; exact hun
        refine wpOp_mono (fun a' w' h4 => ?_) h3
        have := wpAny_flt_go hi hsel hQ htl hwait cs ls (listed.setIfInBounds j true) a' w' hls.2 hg.2 (by rw [Array.setIfInBounds_comm _ _ hji]; exact hs'.2) hfree' (ready_mono hr (Ne.symm hji)) h4.2.1 h4.1 h4.2.2
        simpa [Nat.add_assoc, Nat.add_comm, Nat.add_left_comm] using this
/-- Operation i floats over the chain cs; t is the first that waits for it. -/
theorem wpAny_flt {f : Nat} {l : List Oper} {listed : Array Bool} {a : Act} {w : World} {oi : Oper} (i t : Nat) (cs ts : List Nat) (v : Value) (C : World → Prop) (hi : nth1 l i = some oi)
    (hB : ((cs.all fun k => decide (k < l.length)) && (((t :: ts).all fun k => decide (k < l.length)) && (((nths l cs).all fun o => o.guard.isNone) && (Region.noSelect l.toArray && (Region.waitsFor .any l.toArray t i && (seqIx .any l.toArray (cs ++ t :: ts) (listed.setIfInBounds i true) && (Region.free .any l.toArray listed i && (Region.ready .any l.toArray listed).contains i))))))) = true)
    (hf : f = cs.length + (t :: ts).length + 1) (hQ : ∀ c a w, Q (.panic c) (a.put oi.dst v) w → Q (.panic c) a w) (hw : C w) (hy : YS P l.toArray C oi v a)
    (h : wpSeqC P l.toArray Q C (nths l (t :: ts)) (nths l cs) (a.put oi.dst v) w) : wpAny P .any l.toArray Q f listed a w := by
  subst hf
  simp only [Bool.and_eq_true] at hB
  obtain ⟨h1, h2, h3, h4, h5, h6, h7, h8⟩ := hB
  have hi : l.toArray[i]? = some oi := by rw [nth1_eq] at hi; simpa using hi
  exact wpAny_flt_go (md := .any) hi (Region.noSelect_spec h4) hQ (nths_eq l _ h2) h5 cs (nths l cs) listed a w (nths_eq l cs h1) h3 h6 (Region.free_spec hi h7) (by simpa using h8) hw hy h
end
end Go.Proofs.YtjpdebgejlfeaaaDoor
/- A load floats over operations that come in any order. -/
namespace Go.Proofs.YtjpdebgejlfeaaaDoor
open Go.RowKit

section
variable {P : Program} {ops : Array Oper} {md : Region.Mode} {C : World → Prop} {Q : Exit → Act → World → Prop}
/-- All that is left, in any order; until t each step leads into a world of the class. -/
def wpAnyC (P : Program) (md : Region.Mode) (ops : Array Oper) (Q : Exit → Act → World → Prop) (C : World → Prop) (t : Nat) : Nat → Array Bool → Act → World → Prop
  | 0, listed, a, w => wpAny P md ops Q 0 listed a w
  | f + 1, listed, a, w => Region.ready md ops listed ≠ [] ∧ ∀ j ∈ Region.ready md ops listed,
      (j = t → wpOp P ops Q j (wpAny P md ops Q f (listed.setIfInBounds j true)) a w) ∧ (j ≠ t → wpOp P ops Q j (fun a' w' => C w' ∧ wpAnyC P md ops Q C t f (listed.setIfInBounds j true) a' w') a w)
theorem wpAny_ofC {t : Nat} : ∀ (f : Nat) (listed : Array Bool) (a : Act) (w : World), wpAnyC P md ops Q C t f listed a w → wpAny P md ops Q f listed a w
  | 0, _, _, _, h => h
  | f + 1, listed, a, w, h => ⟨fun h0 => absurd h0 h.1, fun j hj => by
      by_cases hjt : j = t
      · exact (h.2 j hj).1 hjt
      · exact wpOp_mono (fun a' w' h' => wpAny_ofC f _ a' w' h'.2) ((h.2 j hj).2 hjt)⟩
theorem wpAnyC_ready {t : Nat} {rs : List Nat} {f : Nat} {listed : Array Bool} {a : Act} {w : World} (hr : Region.ready md ops listed = rs) (hne : rs ≠ []) (ht : t ∉ rs)
    (h : ∀ j ∈ rs, wpOp P ops Q j (fun a' w' => C w' ∧ wpAnyC P md ops Q C t f (listed.setIfInBounds j true) a' w') a w) : wpAnyC P md ops Q C t (f + 1) listed a w :=
  ⟨by rw [hr]; exact hne, fun j hj => by rw [hr] at hj; exact ⟨fun e => absurd (e ▸ hj) ht, fun _ => h j hj⟩⟩
theorem wpAnyC_one {t i : Nat} {o : Oper} {f : Nat} {listed : Array Bool} {a : Act} {w : World} (hr : Region.ready md ops listed = [i]) (ho : ops[i]? = some o) (ht : i ≠ t)
    (h : ∀ K' : Act → World → Prop, (∀ a w, C w → wpAnyC P md ops Q C t f (listed.setIfInBounds i true) a w → K' a w) → if Region.wanted o (yielded ops a.tmps) = true then Oper.wp P o a w K' Q else K' (a.put o.dst undef) w) :
    wpAnyC P md ops Q C t (f + 1) listed a w :=
  wpAnyC_ready hr (by simp) (by simpa using Ne.symm ht) fun j hj => by
    rw [List.mem_singleton] at hj
    subst hj
    exact wpOp_step ho fun K' hK' => h K' fun a w h1 h2 => hK' a w ⟨h1, h2⟩
theorem wpAnyC_two {t i k : Nat} {o o' : Oper} {f : Nat} {listed : Array Bool} {a : Act} {w : World} (hr : Region.ready md ops listed = [i, k]) (ho : ops[i]? = some o) (ho' : ops[k]? = some o') (ht : i ≠ t) (ht' : k ≠ t)
    (h : ∀ K' : Act → World → Prop, (∀ a w, C w → wpAnyC P md ops Q C t f (listed.setIfInBounds i true) a w → K' a w) → if Region.wanted o (yielded ops a.tmps) = true then Oper.wp P o a w K' Q else K' (a.put o.dst undef) w)
    (h' : ∀ K' : Act → World → Prop, (∀ a w, C w → wpAnyC P md ops Q C t f (listed.setIfInBounds k true) a w → K' a w) → if Region.wanted o' (yielded ops a.tmps) = true then Oper.wp P o' a w K' Q else K' (a.put o'.dst undef) w) :
    wpAnyC P md ops Q C t (f + 1) listed a w :=
  wpAnyC_ready hr (by simp) (by simp; omega) fun j hj => by
    simp only [List.mem_cons, List.not_mem_nil, or_false] at hj
    rcases hj with rfl | rfl
    · exact wpOp_step ho fun K' hK' => h K' fun a w h1 h2 => hK' a w ⟨h1, h2⟩
    · exact wpOp_step ho' fun K' hK' => h' K' fun a w h1 h2 => hK' a w ⟨h1, h2⟩
/-- The rest is a chain: t first. -/
theorem wpAnyC_end {t : Nat} {ts : List Nat} {l : List Oper} {listed : Array Bool} {a : Act} {w : World} (hl : (t :: ts).map (fun k => ops[k]?) = l.map some) (hs : seqIx md ops (t :: ts) listed = true)
    (h : wpList P ops Q l a w) : wpAnyC P md ops Q C t (ts.length + 1) listed a w := by
  cases l with
  | nil => simp at hl
  | cons o l =>
    have hl' := hl
    simp only [List.map_cons, List.cons.injEq] at hl
    have hs' := hs
    simp only [seqIx, Bool.and_eq_true, decide_eq_true_eq] at hs
    refine ⟨by rw [hs.1]; simp, fun j hj => ?_⟩
    rw [hs.1, List.mem_singleton] at hj
    subst hj
    refine ⟨fun _ => ?_, fun h => absurd rfl h⟩
    have hK : ∀ a' w', wpList P ops Q l a' w' → wpAny P md ops Q ts.length (listed.setIfInBounds j true) a' w' := fun a' w' h' => wpAny_of_seqIx ts l _ a' w' hl.2 hs.2 h'
    have h1 : wpOp P ops Q j (wpList P ops Q l) a w := by unfold wpOp; simp only [hl.1]; exact h
    exact wpOp_mono hK h1
theorem wpAny_fltA_go {i t : Nat} {oi : Oper} {v : Value} (hi : ops[i]? = some oi) (hsel : ∀ (j : Nat) (o : Oper) cs b, ops[j]? = some o → o.op ≠ .select cs b)
    (hQ : ∀ c a w, Q (.panic c) (a.put oi.dst v) w → Q (.panic c) a w) (hwait : Region.waitsFor md ops t i = true) :
    ∀ (f : Nat) (listed : Array Bool) (a : Act) (w : World),
      (∀ j oj, ops[j]? = some oj → j ≠ i → listed.getD j true = false → (∀ e ∈ oj.after, Region.binds md e = true → e.on ≠ i) → oi.apart ops oj = true) →
      i ∈ Region.ready md ops listed → C w → YS P ops C oi v a → wpAnyC P md ops Q C t f (listed.setIfInBounds i true) (a.put oi.dst v) w → wpAny P md ops Q (f + 1) listed a w
  | f, listed, a, w, hfree, hr, hw, hy, H => by
    have hun := (mem_ready.1 hr).1
    refine ⟨fun h0 => (by rw [h0] at hr; cases hr), fun j hj => ?_⟩
    by_cases hji : j = i
    · subst hji
      exact ys_wp hi hy hw (wpAny_ofC f _ _ _ H)
    · have h1 := ready_mono hj hji
      cases f with
      | zero =>
        have h0 : Region.ready md ops (listed.setIfInBounds i true) = [] := H.1
        rw [h0] at h1
        cases h1
      | succ f =>
        obtain ⟨hjun, oj, hoj, hall⟩ := mem_ready.1 hj
        have hnot : ∀ e ∈ oj.after, Region.binds md e = true → e.on ≠ i := fun e he hb heq => by
          have k1 := hall e he hb
          rw [heq, getD_both hun] at k1
          cases k1
        have hjt : j ≠ t := by
          rintro rfl
          obtain ⟨o', ho', e', he', hb', hon'⟩ := Region.waitsFor_spec hwait
          have : o' = oj := Option.some.inj (ho'.symm.trans hoj)
          subst this
          exact hnot e' he' hb' hon'
        have h2 := (H.2 j h1).2 hjt
        have h3 := wpOp_putS hoj (hfree j oj hoj hji hjun hnot) (fun cs b => hsel i oi cs b hi) (fun cs b => hsel j oj cs b hoj) hQ hy h2
        have hfree' : ∀ k ok, ops[k]? = some ok → k ≠ i → (listed.setIfInBounds j true).getD k true = false →
            (∀ e ∈ ok.after, Region.binds md e = true → e.on ≠ i) → oi.apart ops ok = true := fun k ok hk hki hun' hno => by
          refine hfree k ok hk hki ?_ hno
          by_cases hjk : j = k
          · subst hjk; exact hjun
          · rw [getD_set_ne true hjk] at hun'; exact hun'
        refine wpOp_mono (fun a' w' h4 => ?_) h3
        refine wpAny_fltA_go hi hsel hQ hwait f (listed.setIfInBounds j true) a' w' hfree' (ready_mono hr (Ne.symm hji)) h4.2.1 h4.1 ?_
        rw [Array.setIfInBounds_comm _ _ hji]
        exact h4.2.2
/-- Operation i floats over the others, in any order, until t. -/
theorem wpAny_fltA {f : Nat} {l : List Oper} {listed : Array Bool} {a : Act} {w : World} {oi : Oper} (i t : Nat) (v : Value) (C : World → Prop) (hi : nth1 l i = some oi)
    (hB : (Region.noSelect l.toArray && (Region.waitsFor .any l.toArray t i && (Region.free .any l.toArray listed i && (Region.ready .any l.toArray listed).contains i))) = true)
    (hQ : ∀ c a w, Q (.panic c) (a.put oi.dst v) w → Q (.panic c) a w) (hw : C w) (hy : YS P l.toArray C oi v a)
    (h : wpAnyC P .any l.toArray Q C t f (listed.setIfInBounds i true) (a.put oi.dst v) w) : wpAny P .any l.toArray Q (f + 1) listed a w := by
  simp only [Bool.and_eq_true] at hB
  obtain ⟨h1, h2, h3, h4⟩ := hB
  have hi : l.toArray[i]? = some oi := by rw [nth1_eq] at hi; simpa using hi
  exact wpAny_fltA_go (md := .any) hi (Region.noSelect_spec h1) hQ h2 f listed a w (Region.free_spec hi h3) (by simpa using h4) hw hy h
/-- All that is left, in any order; each step of an operation below n leads into a world of the class. -/
def wpAnyK (P : Program) (md : Region.Mode) (ops : Array Oper) (Q : Exit → Act → World → Prop) (C : World → Prop) (n : Nat) : Nat → Array Bool → Act → World → Prop
  | 0, listed, a, w => wpAny P md ops Q 0 listed a w
  | f + 1, listed, a, w => Region.ready md ops listed ≠ [] ∧ ∀ j ∈ Region.ready md ops listed,
      (n ≤ j → wpOp P ops Q j (wpAny P md ops Q f (listed.setIfInBounds j true)) a w) ∧ (j < n → wpOp P ops Q j (fun a' w' => C w' ∧ wpAnyK P md ops Q C n f (listed.setIfInBounds j true) a' w') a w)
theorem wpAny_ofK {n : Nat} : ∀ (f : Nat) (listed : Array Bool) (a : Act) (w : World), wpAnyK P md ops Q C n f listed a w → wpAny P md ops Q f listed a w
  | 0, _, _, _, h => h
  | f + 1, listed, a, w, h => ⟨fun h0 => absurd h0 h.1, fun j hj => by
      by_cases hjn : n ≤ j
      · exact (h.2 j hj).1 hjn
      · exact wpOp_mono (fun a' w' h' => wpAny_ofK f _ a' w' h'.2) ((h.2 j hj).2 (by omega))⟩
theorem wpAnyK_ready {n : Nat} {rs : List Nat} {f : Nat} {listed : Array Bool} {a : Act} {w : World} (hr : Region.ready md ops listed = rs) (hne : rs ≠ []) (hn : ∀ j ∈ rs, j < n)
    (h : ∀ j ∈ rs, wpOp P ops Q j (fun a' w' => C w' ∧ wpAnyK P md ops Q C n f (listed.setIfInBounds j true) a' w') a w) : wpAnyK P md ops Q C n (f + 1) listed a w :=
  ⟨by rw [hr]; exact hne, fun j hj => by rw [hr] at hj; exact ⟨fun e => absurd (hn j hj) (by omega), fun _ => h j hj⟩⟩
theorem wpAnyK_one {n i : Nat} {o : Oper} {f : Nat} {listed : Array Bool} {a : Act} {w : World} (hr : Region.ready md ops listed = [i]) (ho : ops[i]? = some o) (hi : i < n)
    (h : ∀ K' : Act → World → Prop, (∀ a w, C w → wpAnyK P md ops Q C n f (listed.setIfInBounds i true) a w → K' a w) → if Region.wanted o (yielded ops a.tmps) = true then Oper.wp P o a w K' Q else K' (a.put o.dst undef) w) :
    wpAnyK P md ops Q C n (f + 1) listed a w :=
  wpAnyK_ready hr (by simp) (by simpa using hi) fun j hj => by
    rw [List.mem_singleton] at hj
    subst hj
    exact wpOp_step ho fun K' hK' => h K' fun a w h1 h2 => hK' a w ⟨h1, h2⟩
theorem wpAnyK_two {n i k : Nat} {o o' : Oper} {f : Nat} {listed : Array Bool} {a : Act} {w : World} (hr : Region.ready md ops listed = [i, k]) (ho : ops[i]? = some o) (ho' : ops[k]? = some o') (hi : i < n) (hk : k < n)
    (h : ∀ K' : Act → World → Prop, (∀ a w, C w → wpAnyK P md ops Q C n f (listed.setIfInBounds i true) a w → K' a w) → if Region.wanted o (yielded ops a.tmps) = true then Oper.wp P o a w K' Q else K' (a.put o.dst undef) w)
    (h' : ∀ K' : Act → World → Prop, (∀ a w, C w → wpAnyK P md ops Q C n f (listed.setIfInBounds k true) a w → K' a w) → if Region.wanted o' (yielded ops a.tmps) = true then Oper.wp P o' a w K' Q else K' (a.put o'.dst undef) w) :
    wpAnyK P md ops Q C n (f + 1) listed a w :=
  wpAnyK_ready hr (by simp) (by simp; omega) fun j hj => by
    simp only [List.mem_cons, List.not_mem_nil, or_false] at hj
    rcases hj with rfl | rfl
    · exact wpOp_step ho fun K' hK' => h K' fun a w h1 h2 => hK' a w ⟨h1, h2⟩
    · exact wpOp_step ho' fun K' hK' => h' K' fun a w h1 h2 => hK' a w ⟨h1, h2⟩
/-- The rest is a chain of the tail. -/
theorem wpAnyK_end {n t : Nat} {ts : List Nat} {l : List Oper} {listed : Array Bool} {a : Act} {w : World} (hn : n ≤ t) (hl : (t :: ts).map (fun k => ops[k]?) = l.map some) (hs : seqIx md ops (t :: ts) listed = true)
    (h : wpList P ops Q l a w) : wpAnyK P md ops Q C n (ts.length + 1) listed a w := by
  cases l with
  | nil => simp at hl
  | cons o l =>
    simp only [List.map_cons, List.cons.injEq] at hl
    simp only [seqIx, Bool.and_eq_true, decide_eq_true_eq] at hs
    refine ⟨by rw [hs.1]; simp, fun j hj => ?_⟩
    rw [hs.1, List.mem_singleton] at hj
    subst hj
    refine ⟨fun _ => ?_, fun h => absurd h (by omega)⟩
    have hK : ∀ a' w', wpList P ops Q l a' w' → wpAny P md ops Q ts.length (listed.setIfInBounds j true) a' w' := fun a' w' h' => wpAny_of_seqIx ts l _ a' w' hl.2 hs.2 h'
    have h1 : wpOp P ops Q j (wpList P ops Q l) a w := by unfold wpOp; simp only [hl.1]; exact h
    exact wpOp_mono hK h1
theorem wpAnyK_fin {n : Nat} {l : List Oper} {listed : Array Bool} {a : Act} {w : World} (t : Nat) (ts : List Nat) (hn : n ≤ t) (hB : (((t :: ts).all fun k => decide (k < l.length)) && seqIx .any l.toArray (t :: ts) listed) = true)
    (h : wpList P l.toArray Q (nths l (t :: ts)) a w) : wpAnyK P .any l.toArray Q C n (ts.length + 1) listed a w := by
  simp only [Bool.and_eq_true] at hB
  exact wpAnyK_end hn (nths_eq l _ hB.1) hB.2 h
theorem wpAnyK_take_go {i n : Nat} {S0 : Array Bool} {oi : Oper} {v : Value} (hi : ops[i]? = some oi) (hsel : ∀ (j : Nat) (o : Oper) cs b, ops[j]? = some o → o.op ≠ .select cs b)
    (hQ : ∀ c a w, Q (.panic c) (a.put oi.dst v) w → Q (.panic c) a w) (hs : sinkS md ops S0 n = true) (hc : chainS md ops S0 n = true) (hn : n < ops.size) (hin : i < n) :
    ∀ (f : Nat) (listed : Array Bool) (a : Act) (w : World), HInv md ops S0 n listed →
      (∀ j oj, ops[j]? = some oj → j ≠ i → listed.getD j true = false → (∀ e ∈ oj.after, Region.binds md e = true → e.on ≠ i) → oi.apart ops oj = true) →
      i ∈ Region.ready md ops listed → C w → YS P ops C oi v a → wpAnyK P md ops Q C n f (listed.setIfInBounds i true) (a.put oi.dst v) w → wpAnyK P md ops Q C n (f + 1) listed a w
  | f, listed, a, w, inv, hfree, hr, hw, hy, H => by
    have hun := (mem_ready.1 hr).1
    refine ⟨fun h0 => (by rw [h0] at hr; cases hr), fun j hj => ⟨fun hnj => absurd hj (tail_waitsS hs hc hn inv _ i rfl hin hun j hnj), fun hjn => ?_⟩⟩
    by_cases hji : j = i
    · subst hji
      exact ys_wp hi hy hw ⟨hw, H⟩
    · have h1 := ready_mono hj hji
      cases f with
      | zero =>
        have h0 : Region.ready md ops (listed.setIfInBounds i true) = [] := H.1
        rw [h0] at h1
        cases h1
      | succ f =>
        obtain ⟨hjun, oj, hoj, hall⟩ := mem_ready.1 hj
        have hnot : ∀ e ∈ oj.after, Region.binds md e = true → e.on ≠ i := fun e he hb heq => by
          have k1 := hall e he hb
          rw [heq, getD_both hun] at k1
          cases k1
        have h2 := (H.2 j h1).2 hjn
        have h3 := wpOp_putS hoj (hfree j oj hoj hji hjun hnot) (fun cs b => hsel i oi cs b hi) (fun cs b => hsel j oj cs b hoj) hQ hy h2
        have hfree' : ∀ k ok, ops[k]? = some ok → k ≠ i → (listed.setIfInBounds j true).getD k true = false →
            (∀ e ∈ ok.after, Region.binds md e = true → e.on ≠ i) → oi.apart ops ok = true := fun k ok hk hki hun' hno => by
          refine hfree k ok hk hki ?_ hno
          by_cases hjk : j = k
          · subst hjk; exact hjun
          · rw [getD_set_ne true hjk] at hun'; exact hun'
        refine wpOp_mono (fun a' w' h4 => ⟨h4.2.1, ?_⟩) h3
        refine wpAnyK_take_go hi hsel hQ hs hc hn hin f (listed.setIfInBounds j true) a' w' (inv.set hj hjn) hfree' (ready_mono hr (Ne.symm hji)) h4.2.1 h4.1 ?_
        rw [Array.setIfInBounds_comm _ _ hji]
        exact h4.2.2
/-- Operation i yields the same in every world of the class: it may be taken first. -/
theorem wpAnyK_take {n f : Nat} {l : List Oper} {listed : Array Bool} {a : Act} {w : World} {oi : Oper} (i : Nat) (v : Value) (hi : nth1 l i = some oi)
    (hB : (Region.noSelect l.toArray && (headB .any l.toArray listed && (sinkS .any l.toArray listed n && (chainS .any l.toArray listed n && (decide (n < l.length) && (decide (i < n) && (Region.free .any l.toArray listed i && (Region.ready .any l.toArray listed).contains i))))))) = true)
    (hQ : ∀ c a w, Q (.panic c) (a.put oi.dst v) w → Q (.panic c) a w) (hw : C w) (hy : YS P l.toArray C oi v a)
    (h : wpAnyK P .any l.toArray Q C n f (listed.setIfInBounds i true) (a.put oi.dst v) w) : wpAnyK P .any l.toArray Q C n (f + 1) listed a w := by
  simp only [Bool.and_eq_true, decide_eq_true_eq] at hB
  obtain ⟨h1, h2, h3, h4, h5, h6, h7, h8⟩ := hB
  have hi : l.toArray[i]? = some oi := by rw [nth1_eq] at hi; simpa using hi
  exact wpAnyK_take_go (md := .any) hi (Region.noSelect_spec h1) hQ h3 h4 (by simpa using h5) h6 f listed a w (headB_spec h2) (Region.free_spec hi h7) (by simpa using h8) hw hy h
end
end Go.Proofs.YtjpdebgejlfeaaaDoor
