/- A region that draws its order, some of whose operations stand behind one guard that has been decided (RelB.tpl's law, with a guard). -/
import Derived.Test.YtbfcbfkfbpaoiaaGreatRelB
import Derived.Test.YtbfcbfkfbpaoiaaGreatRfI
namespace Go.Proofs.YtbfcbfkfbpaoiaaGreat
open Go.RowKit

section
variable {P : Program}
def relBG (md : Region.Mode) (l : List Oper) (D : List (List Nat)) (n : Nat) (g0 : Nat) (b0 : Bool) : Bool :=
  decide (n ≤ l.length) && ((List.range n).all fun i => match l[i]? with
    | none => false
    | some o => (o.guard.isNone || (o.guard == some (g0, b0) && (D.getD i []).contains g0)) && (o.dst.isSome && (o.after.all (fun e => !Region.binds md e || decide (e.on < i)) && (((D.getD i []).all fun j => o.after.any fun e => Region.binds md e && e.on == j) &&
        (List.range i).all fun j => dstOf l j != o.dst)))) &&
  (List.range l.length).all fun t => decide (t < n) || match l[t]? with
    | none => false
    | some o => (List.range n).all fun i => o.after.any fun e => Region.binds md e && e.on == i
structure RelOKG (l : List Oper) (n : Nat) (sp : List RS) (a0 : Act) (g0 : Nat) (b0 : Bool) : Prop where
  le : n ≤ l.length
  op : ∀ i, i < n → ∃ o d, l[i]? = some o ∧ (o.guard = none ∨ (o.guard = some (g0, b0) ∧ g0 ∈ (RS.at_ sp i).D)) ∧ o.dst = some d ∧ d < a0.tmps.size ∧ (∀ e ∈ o.after, Region.binds .any e = true → e.on < i) ∧ (∀ j ∈ (RS.at_ sp i).D, ∃ e ∈ o.after, Region.binds .any e = true ∧ e.on = j)
  ne : ∀ i j, i < n → j < i → dstOf l j ≠ dstOf l i
  tail : ∀ t, n ≤ t → t < l.length → ∃ o, l[t]? = some o ∧ ∀ i, i < n → ∃ e ∈ o.after, Region.binds .any e = true ∧ e.on = i
theorem relOKG {l : List Oper} {n : Nat} {sp : List RS} {a0 : Act} {g0 : Nat} {b0 : Bool} {D : List (List Nat)} (hD : sp.map (·.D) = D) (h : relBG .any l D n g0 b0 = true) (hs : ((List.range n).all fun i => match dstOf l i with | some d => decide (d < a0.tmps.size) | none => false) = true) : RelOKG l n sp a0 g0 b0 := by
  subst hD
  simp only [relBG, Bool.and_eq_true, decide_eq_true_eq] at h
  obtain ⟨⟨h1, h2⟩, h3⟩ := h
  rw [List.all_eq_true] at h2 h3 hs
  have hdD : ∀ i, ((sp.map (·.D)).getD i []) = (RS.at_ sp i).D := fun i => by
    unfold RS.at_
    rw [List.getD_eq_getElem?_getD, List.getD_eq_getElem?_getD, List.getElem?_map]
    cases sp[i]? <;> rfl
  have hop : ∀ i, i < n → ∃ o d, l[i]? = some o ∧ (o.guard = none ∨ (o.guard = some (g0, b0) ∧ g0 ∈ (RS.at_ sp i).D)) ∧ o.dst = some d ∧ d < a0.tmps.size ∧ (∀ e ∈ o.after, Region.binds .any e = true → e.on < i) ∧ (∀ j ∈ (RS.at_ sp i).D, ∃ e ∈ o.after, Region.binds .any e = true ∧ e.on = j) ∧ ∀ j, j < i → dstOf l j ≠ o.dst := by
    intro i hi
    have g := h2 i (List.mem_range.2 hi)
    have gs := hs i (List.mem_range.2 hi)
    cases ho : l[i]? with
    | none => rw [ho] at g; cases g
    | some o =>
      rw [ho] at g
      simp only [Bool.and_eq_true, Bool.or_eq_true, beq_iff_eq, Option.isNone_iff_eq_none, Option.isSome_iff_exists] at g
      obtain ⟨g1, ⟨d, g2⟩, g3, g4, g5⟩ := g
      have e1 : dstOf l i = some d := by unfold dstOf; rw [ho]; exact g2
      rw [e1] at gs
      rw [Array.all_eq_true_iff_forall_mem] at g3
      rw [hdD, List.all_eq_true] at g4
      rw [List.all_eq_true] at g5
      refine ⟨o, d, rfl, g1.imp id (fun x => ⟨x.1, by rw [← hdD]; simpa using x.2⟩), g2, by simpa using gs, fun e he hb => ?_, fun j hj => ?_, fun j hj e => ?_⟩
      · have := g3 e he
        rw [hb] at this
        simpa using this
      · have := g4 j hj
        obtain ⟨e, he, hb⟩ := Array.any_eq_true'.1 this
        simp only [Bool.and_eq_true, beq_iff_eq] at hb
        exact ⟨e, he, hb.1, hb.2⟩
      · have := g5 j (List.mem_range.2 hj)
        rw [e] at this
        simp at this
  refine ⟨h1, fun i hi => ?_, fun i j hi hj e => ?_, fun t ht htl => ?_⟩
  · obtain ⟨o, d, q1, q2, q3, q4, q5, q6, -⟩ := hop i hi
    exact ⟨o, d, q1, q2, q3, q4, q5, q6⟩
  · obtain ⟨o, d, q1, q2, q3, q4, q5, q6, q7⟩ := hop i hi
    refine q7 j hj (e.trans ?_)
    unfold dstOf; rw [q1]; rfl
  · have g := h3 t (List.mem_range.2 htl)
    cases ho : l[t]? with
    | none => rw [ho] at g; simp at g; omega
    | some o =>
      rw [ho] at g
      simp only [Bool.or_eq_true, decide_eq_true_eq] at g
      rcases g with g | g
      · omega
      · rw [List.all_eq_true] at g
        refine ⟨o, rfl, fun i hi => ?_⟩
        have g := g i (List.mem_range.2 hi)
        obtain ⟨e, he, hb⟩ := Array.any_eq_true'.1 g
        simp only [Bool.and_eq_true, beq_iff_eq] at hb
        exact ⟨e, he, hb.1, hb.2⟩
theorem wpAny_relG {l : List Oper} {n : Nat} {sp : List RS} {a0 : Act} {g0 : Nat} {b0 : Bool} {C : World → Prop} {Q : Exit → Act → World → Prop} (hR : RelOKG l n sp a0 g0 b0) (hg0 : ∀ V w, factOf sp V w g0 → V g0 = .bool b0) (hC : ∀ w w', C w → Ext w w' → C w')
    (hstep : ∀ i o, i < n → l[i]? = some o → ∀ (V τ : Nat → Value) (w : World), C w → (∀ j ∈ (RS.at_ sp i).D, factOf sp V w j) → (∀ j ∈ (RS.at_ sp i).D, ∀ d, dstOf l j = some d → τ d = V j) →
      (∀ t, (∀ j, j < n → dstOf l j ≠ some t) → τ t = a0.tmps.getD t undef) → Does P o (evalOf τ) w (fun v w' => Ext w w' ∧ (RS.at_ sp i).ψ ((RS.at_ sp i).D.map V) v w'))
    (hend : ∀ V w, C w → (∀ i, i < n → factOf sp V w i) → wpAny P .any l.toArray Q (l.length - n) (headDone l n) (putAll V (l.take n) 0 a0) w) :
    ∀ (m : Nat) (V : Nat → Value) (listed : Array Bool) (a : Act) (w : World), cntU listed n = m → RInv C l n sp a0 V listed a w → wpAny P .any l.toArray Q (m + (l.length - n)) listed a w := by
  intro m
  induction m with
  | zero =>
    intro V listed a w hm inv
    have hall := cntU_zero n hm
    have e1 : listed = headDone l n := by
      refine Array.ext (by rw [inv.size, headDone_size]) fun i h1 h2 => ?_
      have hil : i < l.length := by rw [← inv.size]; exact h1
      have e := headDone_at l n hil
      rw [Array.getElem?_eq_getElem h2] at e
      injection e with e
      rw [e]
      by_cases hi : i < n
      · have := hall i hi
        simp [h1] at this
        rw [this]; simp [hi]
      · have := inv.tail i (by omega) hil
        simp [h1] at this
        rw [this]; simp [hi]
    obtain ⟨p1, p2, p3, p4⟩ := putAll_spec V (l.take n) 0 a0 (fun i o d hi ho => by
      have hin : i < n := by have := (List.getElem?_eq_some_iff.1 hi).1; rw [List.length_take] at this; omega
      rw [List.getElem?_take, if_pos hin] at hi
      obtain ⟨o', d', q1, -, q3, q4, -⟩ := hR.op i hin
      rw [q1] at hi; injection hi with hi; subst hi
      rw [q3] at ho; injection ho with ho; subst ho
      exact q4) (fun i j o o' d hi hj ho ho' => by
      have hin : i < n := by have := (List.getElem?_eq_some_iff.1 hi).1; rw [List.length_take] at this; omega
      have hjn : j < n := by have := (List.getElem?_eq_some_iff.1 hj).1; rw [List.length_take] at this; omega
      rw [List.getElem?_take, if_pos hin] at hi
      rw [List.getElem?_take, if_pos hjn] at hj
      have e1 : dstOf l i = some d := by unfold dstOf; rw [hi]; exact ho
      have e2 : dstOf l j = some d := by unfold dstOf; rw [hj]; exact ho'
      rcases Nat.lt_trichotomy i j with h | h | h
      · exact absurd (e1.trans e2.symm) (hR.ne j i hjn h)
      · exact h
      · exact absurd (e2.trans e1.symm) (hR.ne i j hin h))
    have e2 : a = putAll V (l.take n) 0 a0 := by
      refine act_ext (inv.asz.trans p1.symm) (inv.adf.trans p2.symm) fun t => ?_
      by_cases ht : ∃ i, i < n ∧ dstOf l i = some t
      · obtain ⟨i, hi, hd⟩ := ht
        obtain ⟨o, d, q1, -, q3, -⟩ := hR.op i hi
        have ed : d = t := by unfold dstOf at hd; rw [q1] at hd; have : o.dst = some t := hd; rw [q3] at this; injection this
        subst ed
        have := p4 i o d (by rw [List.getElem?_take, if_pos hi]; exact q1) q3
        rw [Nat.zero_add] at this
        rw [this, inv.slot i d hi (hall i hi) hd]
      · rw [inv.other t fun i hi _ e => ht ⟨i, hi, e⟩, p3 t fun i o hi e => ?_]
        have hin : i < n := by have := (List.getElem?_eq_some_iff.1 hi).1; rw [List.length_take] at this; omega
        rw [List.getElem?_take, if_pos hin] at hi
        exact ht ⟨i, hin, by unfold dstOf; rw [hi]; exact e⟩
    rw [e1, e2, Nat.zero_add]
    exact hend V w inv.wld fun i hi => inv.fact i hi (hall i hi)
  | succ m ih =>
    intro V listed a w hm inv
    rw [show m + 1 + (l.length - n) = (m + (l.length - n)) + 1 by omega]
    have hlt : ∀ {i}, i < n → i < listed.size := fun {i} hi => by rw [inv.size]; exact Nat.lt_of_lt_of_le hi hR.le
    obtain ⟨i0, hi0, hu0, hp0⟩ := cntU_pos (listed := listed) n (by omega)
    have upd : ∀ (i : Nat) (o : Oper) (d : Tmp) (v : Value) (w' : World), l[i]? = some o → i < n → listed.getD i true = false → (∀ e ∈ o.after, Region.binds .any e = true → listed.getD e.on false = true) → o.dst = some d → d < a0.tmps.size →
        (∀ j ∈ (RS.at_ sp i).D, j < i) → Ext w w' → (RS.at_ sp i).ψ ((RS.at_ sp i).D.map V) v w' → RInv C l n sp a0 (fun k => if k = i then v else V k) (listed.setIfInBounds i true) (a.put (some d) v) w' := by
      intro i o d v w' ho hin hun hall q3 q4 hDi hx hψ
      have hdi : dstOf l i = some d := by unfold dstOf; rw [ho]; exact q3
      have hVD : ∀ j, (∀ k ∈ (RS.at_ sp j).D, k ≠ i) → (RS.at_ sp j).D.map (fun k => if k = i then v else V k) = (RS.at_ sp j).D.map V := fun j hj => List.map_congr_left fun k hk => if_neg (hj k hk)
      refine ⟨by simpa using inv.size, fun t ht htl => by rw [getD_set_ne true (by omega)]; exact inv.tail t ht htl, fun j oj hj hoj hjl e he hb => ?_, ?_, ?_, fun j d' hj hjl hdj => ?_, fun t ht => ?_, fun j hj hjl => ?_, hC _ _ inv.wld hx⟩
      · by_cases e' : i = j
        · subst e'
          rw [ho] at hoj; injection hoj with hoj; subst hoj
          exact getD_set_true (hall e he hb)
        · rw [getD_set_ne true e'] at hjl
          exact getD_set_true (inv.closed j oj hj hoj hjl e he hb)
      · exact (put_size _ _ _).1.trans inv.asz
      · exact (put_size _ _ _).2.trans inv.adf
      · rw [put_getD _ _ _ _ (by rw [inv.asz]; exact q4)]
        by_cases e' : i = j
        · subst e'
          rw [hdi] at hdj; injection hdj with hdj
          rw [if_pos hdj.symm, if_pos rfl]
        · rw [getD_set_ne true e'] at hjl
          rw [if_neg (fun h => by
            subst h
            rcases Nat.lt_trichotomy i j with h | h | h
            · exact hR.ne j i hj h (hdi.trans hdj.symm)
            · exact e' h
            · exact hR.ne i j hin h (hdj.trans hdi.symm)), if_neg (Ne.symm e')]
          exact inv.slot j d' hj hjl hdj
      · rw [put_getD _ _ _ _ (by rw [inv.asz]; exact q4), if_neg (fun h => ht i hin (getD_set_new hun) (by rw [hdi, h]))]
        exact inv.other t fun j hj hjl => by
          by_cases e' : i = j
          · subst e'; rw [hun] at hjl; cases hjl
          · exact ht j hj (by rw [getD_set_ne true e']; exact hjl)
      · by_cases e' : i = j
        · subst e'
          unfold factOf
          rw [hVD i (fun k hk => by have := hDi k hk; omega)]
          show (RS.at_ sp i).ψ _ (if i = i then v else V i) w'
          rw [if_pos rfl]
          exact hψ
        · rw [getD_set_ne true e'] at hjl
          unfold factOf
          show (RS.at_ sp j).ψ _ (if j = i then v else V j) w'
          rw [if_neg (Ne.symm e'), hVD j (fun k hk e2 => by
            subst e2
            obtain ⟨oj, dj, r1, r2, r3, r4, r5, r6⟩ := hR.op j hj
            obtain ⟨e, he, hb, hon⟩ := r6 k hk
            have := getD_t (inv.closed j oj hj r1 hjl e he hb)
            rw [hon, hun] at this
            cases this)]
          exact (RS.at_ sp j).mono _ _ _ _ (inv.fact j hj hjl) hx
    refine ⟨fun h => ?_, fun i hi => ?_⟩
    · exfalso
      obtain ⟨o, d, q1, q2, q3, q4, q5, q6⟩ := hR.op i0 hi0
      have : i0 ∈ Region.ready .any l.toArray listed := mem_ready.2 ⟨hu0, o, by simpa using q1, fun e he hb => getD_f (hlt (by have := q5 e he hb; omega)) (hp0 e.on (q5 e he hb))⟩
      rw [h] at this
      cases this
    · obtain ⟨hun, o, ho, hall⟩ := mem_ready.1 hi
      have ho : l[i]? = some o := by simpa using ho
      have hil : i < l.length := (List.getElem?_eq_some_iff.1 ho).1
      have hin : i < n := by
        rcases Nat.lt_or_ge i n with h | h
        · exact h
        · exfalso
          obtain ⟨o', q1, q2⟩ := hR.tail i h hil
          rw [ho] at q1; injection q1 with q1; subst q1
          obtain ⟨e, he, hb, hon⟩ := q2 i0 hi0
          have := getD_t (hall e he hb)
          rw [hon, hu0] at this
          cases this
      obtain ⟨o', d, q1, q2, q3, q4, q5, q6⟩ := hR.op i hin
      rw [ho] at q1; injection q1 with q1; subst q1
      have hdi : dstOf l i = some d := by unfold dstOf; rw [ho]; exact q3
      have hDl : ∀ j ∈ (RS.at_ sp i).D, j < n ∧ listed.getD j true = true ∧ j < i := fun j hj => by
        obtain ⟨e, he, hb, hon⟩ := q6 j hj
        have h1 := q5 e he hb
        rw [hon] at h1
        exact ⟨by omega, hon ▸ getD_t (hall e he hb), h1⟩
      unfold wpOp
      have ho' : l.toArray[i]? = some o := by simpa using ho
      have hw : Region.wanted o (yielded l.toArray a.tmps) = true := by
        rcases q2 with q2 | ⟨q2, hgD⟩
        · simp [Region.wanted, q2]
        · obtain ⟨hgn, hgl, -⟩ := hDl g0 hgD
          obtain ⟨og, dg, r1, -, r3, -⟩ := hR.op g0 hgn
          have hsl := inv.slot g0 dg hgn hgl (by unfold dstOf; rw [r1]; exact r3)
          rw [hg0 V w (inv.fact g0 hgn hgl)] at hsl
          have e1 : a.tmps[dg]? = some (.bool b0) := by
            rw [Array.getD_eq_getD_getElem?] at hsl
            cases hh : a.tmps[dg]? with
            | none => rw [hh] at hsl; cases hsl
            | some u => rw [hh] at hsl; exact congrArg some hsl
          have e2 : yielded l.toArray a.tmps g0 = some b0 := by
            have e3 : l.toArray[g0]? = some og := by simpa using r1
            unfold yielded
            rw [e3]
            simp only [Option.bind_some, r3, e1]
          simp [Region.wanted, q2, e2]
      simp only [ho', hw, if_true]
      left
      have hs := hstep i o hin ho V (fun t => a.tmps.getD t undef) w inv.wld (fun j hj => inv.fact j (hDl j hj).1 (hDl j hj).2.1) (fun j hj d' hd' => inv.slot j d' (hDl j hj).1 (hDl j hj).2.1 hd') (fun t ht => inv.other t fun j hj _ => ht j hj)
      rw [← eval_evalOf] at hs
      refine hs.wp fun v w' ⟨hx, hψ⟩ => ?_
      rw [q3]
      exact ih _ _ _ w' (by have := cntU_set hun n hin; omega) (upd i o d v w' ho hin hun hall q3 q4 (fun j hj => (hDl j hj).2.2) hx hψ)
/-- A region that draws its order, by the words on its operations. -/
theorem wp_region_relG {id : Nat} {l : List Oper} {n : Nat} {sp : List RS} {a0 : Act} {g0 : Nat} {b0 : Bool} {w0 : World} {Q : Exit → Act → World → Prop} (C : World → Prop) (hm : P.follows .mixedOrders = true) (hR : RelOKG l n sp a0 g0 b0) (hg0 : ∀ V w, factOf sp V w g0 → V g0 = .bool b0) (hC : ∀ w w', C w → Ext w w' → C w') (h0 : C w0.drew)
    (hstep : RSteps P l n sp a0 C (l.take n) 0)
    (hend : ∀ V w, C w → (∀ i, i < n → factOf sp V w i) → wpAny P .any l.toArray Q (l.length - n) (headDone l n) (putAll V (l.take n) 0 a0) w) :
    (Code.region id l.toArray true).wp P Q a0 w0 := by
  refine wp_region_any hm ?_
  have hle := hR.le
  have := wpAny_relG hR hg0 hC (fun i o hi ho V τ w hc hf ht h0 => by
    have := RSteps.get _ _ hstep i o (by rw [List.getElem?_take, if_pos hi]; exact ho)
    rw [Nat.zero_add] at this
    exact this V τ w hc hf ht (fun t ht' => h0 t fun j hj e => by
      have := List.all_eq_true.1 ht' j (List.mem_range.2 hj)
      rw [e] at this
      simp at this)) hend n (fun _ => undef) (Array.replicate l.toArray.size false) a0 w0.drew (cntU_none _ _ (by simpa using hle))
    ⟨by simp, fun t _ htl => getD_in (by simpa using htl) (getD_replicate_false _ _), fun i o hi _ hl => (by rw [getD_in (by simp; omega) (getD_replicate_false _ _)] at hl; cases hl), rfl, rfl,
     fun i d hi hl => (by rw [getD_in (by simp; omega) (getD_replicate_false _ _)] at hl; cases hl), fun _ _ => rfl, fun i hi hl => (by rw [getD_in (by simp; omega) (getD_replicate_false _ _)] at hl; cases hl), h0⟩
  rw [show n + (l.length - n) = l.toArray.size by simp; omega] at this
  exact this
theorem wp_region_relGT {id : Nat} {l : List Oper} {n : Nat} {sp : List RS} {a0 : Act} {g0 : Nat} {b0 : Bool} {w0 : World} {Q : Exit → Act → World → Prop} (ts : List Nat) (C : World → Prop) (hm : P.follows .mixedOrders = true) (hR : RelOKG l n sp a0 g0 b0) (hg0 : ∀ V w, factOf sp V w g0 → V g0 = .bool b0) (hT : tailB l n ts = true) (hC : ∀ w w', C w → Ext w w' → C w') (h0 : C w0.drew)
    (hstep : RSteps P l n sp a0 C (l.take n) 0)
    (hend : ∀ V w, C w → (∀ i, i < n → factOf sp V w i) → wpList P l.toArray Q (nths l ts) (putAll V (l.take n) 0 a0) w) :
    (Code.region id l.toArray true).wp P Q a0 w0 :=
  wp_region_relG C hm hR hg0 hC h0 hstep fun V w hc hf => wpAny_tail hT (hend V w hc hf)
end
end Go.Proofs.YtbfcbfkfbpaoiaaGreat
/- Refutation by propagation: the reference's walk. Printed by genrfs.py. -/
namespace Go.Proofs.YtbfcbfkfbpaoiaaGreat
open Go.RowKit
attribute [local go_sem] evalOf
set_option maxRecDepth 100000 in
set_option maxHeartbeats 8000000 in
theorem validConjunction_any (v vl : Value) (ds : List Int) (cs : List Con) (ls : List Lt) (w : World) (hM : SMod w v ds cs) (hL : SLt w vl ls) :
    Calls Tryz.prog 17 #[v, vl] w (Ret (.bool (vMod ds cs && okCl ls ds.length)) w) := by
  have hM0 := hide hM
  have hL0 := hide hL
  obtain ⟨vd, vc, rfl, hD, hC⟩ := hM
  have hD0 := hide hD
  have hbd := hD.bytes
  obtain ⟨Ad, cd, rfl, -, hld⟩ := hD.form
  obtain ⟨Ac, cc, rfl, -, hlc⟩ := hC.form
  obtain ⟨Al, cl, rfl, -, hll⟩ := hL.form
  obtain ⟨w0, hw0⟩ : ∃ w0, w0 = w.alloc (.cells #[.slice Ad ds.length cd, .slice Ac cs.length cc] 26) := ⟨_, rfl⟩
  have hx0 : Ext w w0 := by rw [hw0]; exact (Ext.refl w).alloc _
  have k0 : w0.cell? ⟨w.heap.size, 0, none⟩ = some (.slice Ad ds.length cd) := by rw [hw0]; go_simp
  have k1 : w0.cell? ⟨w.heap.size, 1, none⟩ = some (.slice Ac cs.length cc) := by rw [hw0]; go_simp
  have ks : w.heap.size < w0.heap.size := by rw [hw0]; simp
  have HX0 := hide hx0
  have K0 := hide k0
  have K1 := hide k1
  clear hD hC hL hx0
  go_enter Tryz.func17, Tryz.ntmps17
  go_wp2_with fail
  rw [← hw0]
  clear hw0
  refine (validModelS_any _ ds cs _ (hM0.out.ext HX0.out)).mono ?_
  rintro e w1 ⟨rfl, hx1⟩
  have k0 := (hx1.cells _ _ ks).trans k0
  have ks := Nat.lt_of_lt_of_le ks hx1.size
  have HX1 := hide (HX0.out.trans hx1)
  clear hx1 k1
  cases hq : vMod ds cs with
  | false =>
    go_wp2
    go_ret
    exact Ret.mk (ret_b (by rw [hq, Bool.false_and])) HX1.out
  | true =>
    go_wp2_with fail
    refine (validClause_any _ ls ds.length _ (hL0.out.ext HX1.out) (by omega) (by omega)).mono ?_
    rintro e w2 ⟨rfl, hx2⟩
    have HX2 := hide (HX1.out.trans hx2)
    clear hx2
    go_wp2
    go_ret
    exact Ret.mk (ret_b (by rw [hq, Bool.true_and])) HX2.out
set_option maxRecDepth 100000 in
set_option maxHeartbeats 8000000 in
theorem RefutesS_any (v vl : Value) (ds : List Int) (cs : List Con) (ls : List Lt) (w : World) (hM : SMod w v ds cs) (hL : SLt w vl ls) :
    Calls Tryz.prog 6 #[v, vl] w (Ret (.bool (vMod ds cs && (okCl ls ds.length && rftB cs ds ls))) w) := by
  have hM0 := hide hM
  have hL0 := hide hL
  obtain ⟨vd, vc, rfl, hD, hC⟩ := hM
  have hD0 := hide hD
  have hbd := hD.bytes
  obtain ⟨Ad, cd, rfl, -, hld⟩ := hD.form
  obtain ⟨Ac, cc, rfl, -, hlc⟩ := hC.form
  obtain ⟨Al, cl, rfl, -, hll⟩ := hL.form
  obtain ⟨w0, hw0⟩ : ∃ w0, w0 = w.alloc (.cells #[.slice Ad ds.length cd, .slice Ac cs.length cc] 26) := ⟨_, rfl⟩
  have hx0 : Ext w w0 := by rw [hw0]; exact (Ext.refl w).alloc _
  have k0 : w0.cell? ⟨w.heap.size, 0, none⟩ = some (.slice Ad ds.length cd) := by rw [hw0]; go_simp
  have k1 : w0.cell? ⟨w.heap.size, 1, none⟩ = some (.slice Ac cs.length cc) := by rw [hw0]; go_simp
  have ks : w.heap.size < w0.heap.size := by rw [hw0]; simp
  have HX0 := hide hx0
  have K0 := hide k0
  have K1 := hide k1
  clear hD hC hL hx0
  cases hq0 : vMod ds cs && okCl ls ds.length with
  | false =>
    have HQ0 := hide hq0
    have HW := hide hw0
    clear hq0
    go_enter Tryz.func6, Tryz.ntmps6
    go_wp2_with fail
    rw [← hw0]
    clear hw0
    refine wp_region_ext (by kernel_rfl) (by kernel_rfl) ?_
    iterate 2 (apply quiet_val; (focus rfl); (focus (intro w' hw'; have hk' := hw'.cells; go_simp; all_goals exact rfl)); simp only [Act.put, List.setIfInBounds_toArray, List.set_cons_succ, List.set_cons_zero])
    apply quiet_call; (focus rfl); (focus (intro w' hw'; go_simp; all_goals (first | exact rfl | (apply And.intro <;> exact rfl))))
    · exact fun w' hw' => Ret.quiet ((validConjunction_any _ _ ds cs ls w' (hM0.out.ext (HX0.out.trans hw')) (hL0.out.ext (HX0.out.trans hw'))).mono fun e w2 h => by rw [HQ0.out] at h; exact h) hw'
    (simp only [Act.put, List.setIfInBounds_toArray, List.set_cons_succ, List.set_cons_zero])
    (apply quiet_val; (focus rfl); (focus (intro w' hw'; have hk' := hw'.cells; go_simp; all_goals exact rfl)); simp only [Act.put, List.setIfInBounds_toArray, List.set_cons_succ, List.set_cons_zero])
    iterate 7 go_big_quiet_skip
    iterate 2 (apply quiet_val; (focus rfl); (focus (intro w' hw'; have hk' := hw'.cells; go_simp; all_goals exact rfl)); simp only [Act.put, List.setIfInBounds_toArray, List.set_cons_succ, List.set_cons_zero])
    refine wpQuiet_nil ?_
    intro w2 hx2
    go_wp2
    go_ret
    exact Ret.mk (ret_b (by rw [← Bool.and_assoc, HQ0.out, Bool.false_and])) (HX0.out.trans hx2)
  | true =>
    have HVC := hide (show (Value.bool (vMod ds cs && okCl ls ds.length)) = .bool true by rw [hq0])
    obtain ⟨hv, hok⟩ := Bool.and_eq_true_iff.1 hq0
    obtain ⟨hG, h1, h4⟩ := vMod_good hv
    have HG := hide hG
    have HOK := hide hok
    obtain ⟨q, hq⟩ : ∃ q, q = resCL ds ls := ⟨_, rfl⟩
    have HQ := hide hq
    have hgq := rft_good hG hok
    rw [← hq] at hgq
    have HGQ := hide hgq
    have hgp := (propL_R hgq h4).good
    have HGP := hide hgp
    have hql := hgq.1
    have hpl := hgp.1
    have HV := hide (show hasI (propL cs q) 0 = (vMod ds cs && (okCl ls ds.length && rftB cs ds ls)) by rw [hv, hok, rftB, ← hq]; rfl)
    clear hG hok hv hq0 hq hgq hgp k0 k1
    go_enter Tryz.func6, Tryz.ntmps6
    go_wp2_with fail
    rw [← hw0]
    clear hw0
    refine wp_region_relGT (g0 := 3) (b0 := true) (n := 12) (ts := [12]) (sp := [RS.q [] (fun _ => .agg #[.slice Ad ds.length cd, .slice Ac cs.length cc]), RS.q [] (fun _ => .slice Al ls.length cl), RS.q [0, 1] (fun _ => .bool true), RS.q [2] (fun _ => .bool true), RS.q [3] (fun _ => .agg #[.slice Ad ds.length cd, .slice Ac cs.length cc]), RS.q [3] (fun _ => .pointer (some ⟨w.heap.size, 0, none⟩)), RS.q [3, 5] (fun _ => .slice Ad ds.length cd), RS.q [3] (fun _ => .slice Al ls.length cl), RS.ow [3, 6, 7] (q) w0, RS.ow [3, 4, 8] (propL cs q) w0, RS.q [3, 9] (fun _ => .bool (hasI (propL cs q) 0)), RS.q [3, 10] (fun _ => .bool (hasI (propL cs q) 0))])
      (fun W => Ext w0 W) (by kernel_rfl) (relOKG (D := [[], [], [0, 1], [2], [3], [3], [3, 5], [3], [3, 6, 7], [3, 4, 8], [3, 9], [3, 10]]) rfl (by kernel_rfl) rfl) (fun V w h => h) (by kernel_rfl) ((fun W W' h hx => h.trans hx)) (Ext.refl w0).drew ?steps ?ends
    case steps =>
      refine ⟨?_, ?_, ?_, ?_, ?_, ?_, ?_, ?_, ?_, ?_, ?_, ?_, trivial⟩
      · intro V τ W hC hf ht h0
        have s2 : τ 2 = .pointer (some ⟨w.heap.size, 0, none⟩) := h0 2 (by kernel_rfl)
        have k0 := (hC.cells _ _ ks).trans K0.out
        have k1 := (hC.cells _ _ ks).trans K1.out
        refine Does.val (w' := W) (v := .agg #[.slice Ad ds.length cd, .slice Ac cs.length cc]) ?_ ⟨Ext.refl W, rfl⟩
        clear h0 ht hf
        go_simp
      · intro V τ W hC hf ht h0
        have s1 : τ 1 = .slice Al ls.length cl := h0 1 (by kernel_rfl)
        refine Does.val (w' := W) (v := .slice Al ls.length cl) ?_ ⟨Ext.refl W, rfl⟩
        go_simp
      · intro V τ W hC hf ht h0
        have f0 : V 0 = .agg #[.slice Ad ds.length cd, .slice Ac cs.length cc] := hf 0 (by simp [RS.at_, RS.q, RS.ow])
        have f1 : V 1 = .slice Al ls.length cl := hf 1 (by simp [RS.at_, RS.q, RS.ow])
        have s5 := (ht 0 (by simp [RS.at_, RS.q, RS.ow]) 5 rfl).trans f0
        have s6 := (ht 1 (by simp [RS.at_, RS.q, RS.ow]) 6 rfl).trans f1
        refine Does.call (w' := W) (f := 17) (args := #[.agg #[.slice Ad ds.length cd, .slice Ac cs.length cc], .slice Al ls.length cl]) (by go_simp; all_goals (first | exact rfl | (apply And.intro <;> exact rfl))) ?_
        refine (validConjunction_any _ _ ds cs ls _ (hM0.out.ext (HX0.out.trans hC)) (hL0.out.ext (HX0.out.trans hC))).mono ?_
        rintro e wa ⟨rfl, hxa⟩
        exact ⟨_, rfl, hxa, HVC.out⟩
      · intro V τ W hC hf ht h0
        have f2 : V 2 = .bool true := hf 2 (by simp [RS.at_, RS.q, RS.ow])
        have s7 := (ht 2 (by simp [RS.at_, RS.q, RS.ow]) 7 rfl).trans f2
        refine Does.val (w' := W) (v := .bool true) ?_ ⟨Ext.refl W, rfl⟩
        go_simp
      · intro V τ W hC hf ht h0
        have s2 : τ 2 = .pointer (some ⟨w.heap.size, 0, none⟩) := h0 2 (by kernel_rfl)
        have k0 := (hC.cells _ _ ks).trans K0.out
        have k1 := (hC.cells _ _ ks).trans K1.out
        refine Does.val (w' := W) (v := .agg #[.slice Ad ds.length cd, .slice Ac cs.length cc]) ?_ ⟨Ext.refl W, rfl⟩
        clear h0 ht hf
        go_simp
      · intro V τ W hC hf ht h0
        have s2 : τ 2 = .pointer (some ⟨w.heap.size, 0, none⟩) := h0 2 (by kernel_rfl)
        refine Does.val (w' := W) (v := .pointer (some ⟨w.heap.size, 0, none⟩)) ?_ ⟨Ext.refl W, rfl⟩
        go_simp
      · intro V τ W hC hf ht h0
        have f5 : V 5 = .pointer (some ⟨w.heap.size, 0, none⟩) := hf 5 (by simp [RS.at_, RS.q, RS.ow])
        have s10 := (ht 5 (by simp [RS.at_, RS.q, RS.ow]) 10 rfl).trans f5
        have k0 := (hC.cells _ _ ks).trans K0.out
        refine Does.val (w' := W) (v := .slice Ad ds.length cd) ?_ ⟨Ext.refl W, rfl⟩
        go_simp
      · intro V τ W hC hf ht h0
        have s1 : τ 1 = .slice Al ls.length cl := h0 1 (by kernel_rfl)
        refine Does.val (w' := W) (v := .slice Al ls.length cl) ?_ ⟨Ext.refl W, rfl⟩
        go_simp
      · intro V τ W hC hf ht h0
        have f6 : V 6 = .slice Ad ds.length cd := hf 6 (by simp [RS.at_, RS.q, RS.ow])
        have f7 : V 7 = .slice Al ls.length cl := hf 7 (by simp [RS.at_, RS.q, RS.ow])
        have s11 := (ht 6 (by simp [RS.at_, RS.q, RS.ow]) 11 rfl).trans f6
        have s12 := (ht 7 (by simp [RS.at_, RS.q, RS.ow]) 12 rfl).trans f7
        refine Does.call (w' := W) (f := 20) (args := #[.slice Ad ds.length cd, .slice Al ls.length cl]) (by go_simp; all_goals (first | exact rfl | (apply And.intro <;> exact rfl))) ?_
        refine (restrictTo_any _ _ ds ls ds.length _ (hD0.out.ext (HX0.out.trans hC)) (hL0.out.ext (HX0.out.trans hC)) HG.out.dom HOK.out h1 h4).mono ?_
        rintro e wa hres
        have hr2 : OwnRes q w0 e wa := by rw [HQ.out]; exact OwnRes.from hres hC
        obtain ⟨A3, c3, b3, m3, f3, rfl, -, -, -, -, hxa⟩ := hres
        exact ⟨_, rfl, hxa, hr2⟩
      · intro V τ W hC hf ht h0
        have f4 : V 4 = .agg #[.slice Ad ds.length cd, .slice Ac cs.length cc] := hf 4 (by simp [RS.at_, RS.q, RS.ow])
        have f8 : OwnRes q w0 (.returned (V 8)) W := hf 8 (by simp [RS.at_, RS.q, RS.ow])
        have s9 := (ht 4 (by simp [RS.at_, RS.q, RS.ow]) 9 rfl).trans f4
        have s13 : τ 13 = V 8 := ht 8 (by simp [RS.at_, RS.q, RS.ow]) 13 rfl
        refine Does.call (w' := W) (f := 19) (args := #[.agg #[.slice Ad ds.length cd, .slice Ac cs.length cc], V 8]) (by go_simp; all_goals (first | exact rfl | (apply And.intro <;> exact rfl))) ?_
        refine (fixpointS_any _ _ ds q cs _ (hM0.out.ext (HX0.out.trans hC)) (f8.ints (fun i hi => by have := HGQ.out.2.1 i hi; unfold I64; omega)) (by rw [HGQ.out.1]; exact HGQ.out) (by have := HGQ.out.1; omega) (by have := HGQ.out.1; omega)).mono ?_
        rintro e wa hres
        have hr2 := OwnRes.from hres hC
        obtain ⟨A3, c3, b3, m3, f3, rfl, -, -, -, -, hxa⟩ := hres
        exact ⟨_, rfl, hxa, hr2⟩
      · intro V τ W hC hf ht h0
        have f9 : OwnRes (propL cs q) w0 (.returned (V 9)) W := hf 9 (by simp [RS.at_, RS.q, RS.ow])
        have s14 : τ 14 = V 9 := ht 9 (by simp [RS.at_, RS.q, RS.ow]) 14 rfl
        refine Does.call (w' := W) (f := 18) (args := #[V 9]) (by go_simp; all_goals (first | exact rfl | (apply And.intro <;> exact rfl))) ?_
        refine (hasEmpty_any _ (propL cs q) _ (f9.ints (fun i hi => by have := HGP.out.2.1 i hi; unfold I64; omega))).mono ?_
        rintro e wa ⟨rfl, rfl⟩
        exact ⟨_, rfl, Ext.refl _, rfl⟩
      · intro V τ W hC hf ht h0
        have f3 : V 3 = .bool true := hf 3 (by simp [RS.at_, RS.q, RS.ow])
        have f10 : V 10 = .bool (hasI (propL cs q) 0) := hf 10 (by simp [RS.at_, RS.q, RS.ow])
        have s8 := (ht 3 (by simp [RS.at_, RS.q, RS.ow]) 8 rfl).trans f3
        have s15 := (ht 10 (by simp [RS.at_, RS.q, RS.ow]) 15 rfl).trans f10
        refine Does.val (w' := W) (v := .bool (hasI (propL cs q) 0)) ?_ ⟨Ext.refl W, rfl⟩
        go_simp
    case ends =>
      intro V W hC hf
      have f0 : V 0 = .agg #[.slice Ad ds.length cd, .slice Ac cs.length cc] := hf 0 (by omega)
      have f1 : V 1 = .slice Al ls.length cl := hf 1 (by omega)
      have f2 : V 2 = .bool true := hf 2 (by omega)
      have f3 : V 3 = .bool true := hf 3 (by omega)
      have f4 : V 4 = .agg #[.slice Ad ds.length cd, .slice Ac cs.length cc] := hf 4 (by omega)
      have f5 : V 5 = .pointer (some ⟨w.heap.size, 0, none⟩) := hf 5 (by omega)
      have f6 : V 6 = .slice Ad ds.length cd := hf 6 (by omega)
      have f7 : V 7 = .slice Al ls.length cl := hf 7 (by omega)
      obtain ⟨A8, c8, f8⟩ := (show OwnRes q w0 (.returned (V 8)) W from hf 8 (by omega)).form
      obtain ⟨A9, c9, f9⟩ := (show OwnRes (propL cs q) w0 (.returned (V 9)) W from hf 9 (by omega)).form
      have f10 : V 10 = .bool (hasI (propL cs q) 0) := hf 10 (by omega)
      have f11 : V 11 = .bool (hasI (propL cs q) 0) := hf 11 (by omega)
      rw [hql] at f8
      rw [hpl] at f9
      clear hf
      simp only [List.take_succ_cons, List.take_zero, putAll, Act.put, List.setIfInBounds_toArray, List.set_cons_succ, List.set_cons_zero, Nat.reduceAdd, f0, f1, f2, f3, f4, f5, f6, f7, f8, f9, f10, f11]
      simp only [nths, nth1]
      clear f0 f1 f2 f3 f4 f5 f6 f7 f8 f9 f10 f11
      have HXE := hide (HX0.out.trans hC)
      clear hC
      go_wp2
      go_ret
      exact Ret.mk (ret_b HV.out) HXE.out
end Go.Proofs.YtbfcbfkfbpaoiaaGreat
