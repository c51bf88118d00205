/- What the laws call: equalInts, contained, withDomains; Propagate and IsConsistent of the program. -/
import Derived.Test.YtgeflejmdlipmaaPrbX
import Derived.Test.YtgeflejmdlipmaaSpD
import Derived.Test.YtgeflejmdlipmaaUtlA
import Derived.Deep.CutBlock
import Derived.Deep.DeepCutAuto
import Derived.Test.YtgeflejmdlipmaaDom
import Derived.Test.YtgeflejmdlipmaaValid1
namespace Go.Proofs.Ytgeflejmdlipmaa
open Go.RowKit
attribute [local go_sem] evalOf
set_option maxHeartbeats 2000000 in
theorem equalInts_any (v v' : Value) (xs ys : List Int) (w : World) (hS : SInts w v xs) (hS' : SInts w v' ys) : Calls Try.prog 7 #[v, v'] w (Ret (.bool (decide (xs = ys))) w) := by
  have hS0 := hide hS
  have hS0' := hide hS'
  obtain ⟨A, c, rfl, -, hln⟩ := hS.form
  obtain ⟨A', c', rfl, -, hln'⟩ := hS'.form
  clear hS hS'
  by_cases hl : xs.length = ys.length
  · have hl' : ((xs.length : Int) != (ys.length : Int)) = false := by simp [hl]
    have HL := hide hl
    clear hl
    go_enter Try.func7, Try.ntmps7
    go_wp2
    go_loopw [5] (fun i wr => ∃ k : Nat, k ≤ xs.length ∧ i = .int .i64 k ∧ Ext w wr ∧ ∀ j, j < k → at0 xs j = at0 ys j) (fun i _ => xs.length - (intOf i).toNat)
    case atStart => exact ⟨0, Nat.zero_le _, rfl, Ext.refl w, fun j hj => by omega⟩
    case round =>
      obtain ⟨k, hk, rfl, hxr, hq⟩ := hrel
      have HQ := hide hq
      clear hq
      by_cases hlt : k < xs.length
      · have hlt' : k < ys.length := by have := HL.out; omega
        have hkI : (k : Int) < xs.length := by omega
        have hkI' : (k : Int) < ys.length := by omega
        obtain ⟨b, off, rfl, hbl, f1⟩ := (hS0.out.ext hxr).at_ hlt
        obtain ⟨b', off', rfl, hbl', f1'⟩ := (hS0'.out.ext hxr).at_ hlt'
        go_wp2
        refine wp_region_ext (by kernel_rfl) (by kernel_rfl) ?_
        iterate 9 (apply quiet_val; (focus rfl); (focus (intro w' hw'; have hk' := hw'.cells; go_simp; all_goals exact rfl)); simp only [Act.put, List.setIfInBounds_toArray, List.set_cons_succ, List.set_cons_zero])
        refine wpQuiet_nil ?_
        intro w2 hx2
        have HX2 := hide (hxr.trans hx2)
        clear hx2 f1 f1'
        by_cases he : at0 xs k = at0 ys k
        · have he' : (at0 xs k != at0 ys k) = false := by simp [he]
          have HE := hide he
          clear he
          go_wp2
          go_roundw
          case rel => exact ⟨k + 1, by omega, by go_num, HX2.out, fun j hj => by
            by_cases e : j = k
            · subst e; exact HE.out
            · exact HQ.out j (by omega)⟩
          case measure => simp [intOf]; omega
        · have he' : (at0 xs k != at0 ys k) = true := by simpa using he
          have HE := hide he
          clear he
          go_wp2
          go_ret
          exact Ret.mk (ret_b (by symm; rw [decide_eq_false_iff_not]; intro e; exact HE.out (by rw [e]))) HX2.out
      · obtain rfl : k = xs.length := by omega
        go_wp2
        go_ret
        refine Ret.mk (ret_b ?_) hxr
        symm
        rw [decide_eq_true_iff]
        refine List.ext_getElem HL.out fun i h1 h2 => ?_
        have := HQ.out i h1
        unfold at0 at this
        rwa [getD_lt _ _ h1, getD_lt _ _ h2] at this
  · have hl' : ((xs.length : Int) != (ys.length : Int)) = true := by rw [bne_iff_ne]; omega
    have HL := hide hl
    clear hl
    go_enter Try.func7, Try.ntmps7
    go_wp2
    go_ret
    exact Ret.mk (ret_b (by symm; rw [decide_eq_false_iff_not]; intro e; exact HL.out (by rw [e]))) (Ext.refl w)

theorem and_sub {a b : Int} (ha : 0 ≤ a ∧ a ≤ 63) (hb : 0 ≤ b ∧ b ≤ 63) (h : ∀ v, v < 6 → hasB a v = true → hasB b v = true) : bits .and .i64 a b = a := by
  have key : ((List.range 64).all fun i => (List.range 64).all fun j => !((List.range 6).all fun v => !(hasB (i : Int) v) || hasB (j : Int) v) || (bits .and .i64 (i : Int) (j : Int) == (i : Int))) = true := by decide +kernel
  rw [List.all_eq_true] at key
  have k1 := key a.toNat (List.mem_range.2 (by omega))
  rw [List.all_eq_true] at k1
  have k2 := k1 b.toNat (List.mem_range.2 (by omega))
  rw [show ((a.toNat : Nat) : Int) = a by omega, show ((b.toNat : Nat) : Int) = b by omega] at k2
  have k3 : ((List.range 6).all fun v => !(hasB a v) || hasB b v) = true := by
    rw [List.all_eq_true]
    intro v hv
    have := h v (by simpa using hv)
    cases e : hasB a v
    · rfl
    · rw [this e]; rfl
  rw [k3] at k2
  simpa using k2
/-- The value of Propagate. -/
def prpV (ds : List Int) (cs : List Con) : List Int := if vMod ds cs = true then propL cs ds else []
set_option maxRecDepth 100000 in
set_option maxHeartbeats 4000000 in
theorem PropagateI_any (v : Value) (ds : List Int) (cs : List Con) (w : World) (hM : SMod w v ds cs) :
    Calls Try.prog 9 #[v] w (OwnRes (prpV ds cs) w) := by
  have hM0 := hide hM
  obtain ⟨ve, vc, rfl, hE, hC⟩ := hM
  obtain ⟨Ae, ce, rfl, -, hle⟩ := hE.form
  obtain ⟨Ac, cc, rfl, -, hlc⟩ := hC.form
  obtain ⟨w0, hw0⟩ : ∃ w0, w0 = w.alloc (.cells #[.slice Ae ds.length ce, .slice Ac cs.length cc] 26) := ⟨_, rfl⟩
  have hx0 : Ext w w0 := by rw [hw0]; exact (Ext.refl w).alloc _
  have k0 : w0.cell? ⟨w.heap.size, 0, none⟩ = some (.slice Ae ds.length ce) := by rw [hw0]; go_simp
  have k1 : w0.cell? ⟨w.heap.size, 1, none⟩ = some (.slice Ac cs.length cc) := by rw [hw0]; go_simp
  have ks : w.heap.size < w0.heap.size := by rw [hw0]; simp
  have HX0 := hide hx0
  have hEE := hide hE
  have hE0 := hide (hE.ext hx0)
  have hC0 := hide (hC.ext hx0)
  clear hE hC hx0
  go_enter Try.func9, Try.ntmps9
  go_wp2_with fail
  rw [← hw0]
  clear hw0
  refine (ValidModelI_any _ _ ds cs _ hE0.out hC0.out (fun i _ => fits_all _)).mono ?_
  rintro e w1 ⟨rfl, hx1⟩
  have HX1 := hide (HX0.out.trans hx1)
  have k0 := (hx1.cells _ _ ks).trans k0
  have k1 := (hx1.cells _ _ ks).trans k1
  clear hx1
  cases hv : vMod ds cs with
  | false =>
    have HV := hide (show prpV ds cs = [] by rw [prpV, hv]; rfl)
    clear hv
    go_wp2
    go_ret
    rw [HV.out]
    exact OwnRes.nil_ rfl HX1.out
  | true =>
    have HV := hide (show prpV ds cs = propL cs ds by rw [prpV, hv]; rfl)
    obtain ⟨hG, hp, h4⟩ := vMod_good hv
    have HG := hide hG
    clear hv hG
    go_wp2_with fail
    refine (propagate_any _ _ ds ds cs _ (hM0.out.ext HX1.out) (hEE.out.ext HX1.out) HG.out h4 hp).mono ?_
    rintro e w2 hres
    have HRES := hide (show OwnRes (prpV ds cs) w e w2 by rw [HV.out]; exact OwnRes.from hres HX1.out)
    obtain ⟨A3, c3, b3, m3, f3, rfl, -⟩ := hres
    obtain ⟨L, hL⟩ : ∃ L, L = (propL cs ds).length := ⟨_, rfl⟩
    rw [← hL] at HRES ⊢
    clear hL
    go_wp2
    go_ret
    exact HRES.out
/-- append to an empty row: a word on a value alone. -/
def RS.v (D : List Nat) (g : List Value → Value → Prop) : RS := ⟨D, fun vs v _ => g vs v, fun _ _ _ _ h _ => h⟩
/-- append to an empty row of no capacity: a new row. -/
theorem doesAppZ {o : Oper} {ρ : Operand → Value} {w : World} {R : Value → World → Prop} (s x : Operand) (ho : o.op = .call { callee := .builtin .append, args := #[s, x], argTypes := #[23, 23] }) (g : Addr) (xs : List Int) (ad : Addr) (c : Nat)
    (hs : ρ s = .slice (some g) 0 0) (hx : ρ x = .slice (some ad) xs.length c) (hy : SInts w (.slice (some ad) xs.length c) xs) (hp : 0 < xs.length) (hl : xs.length ≤ 1000000) (hR : ∀ v' w', OwnRes xs w (.returned v') w' → R v' w') : Does Try.prog o ρ w R := by
  obtain ⟨i, hi, hz, hsz, hby⟩ := Try.infoIp
  obtain ⟨v', w', e1, e2, e3⟩ := run_append_arg_grows (P := Try.prog) w 23 o.type 3 i (.int .i64 0) 1 8 Try.underlying23 hi hz hsz hby rfl (by omega) g 0 0 [] (by simp) (fun j u hj => by simp at hj) ad xs.length c (xs.map vI) (by simp)
    (fun j u hj => by
      rw [List.getElem?_map] at hj
      obtain ⟨y, hy1, hy2⟩ := Option.map_eq_some_iff.1 hj
      obtain ⟨hjl, hje⟩ := List.getElem?_eq_some_iff.1 hy1
      obtain ⟨b, off, e, hb, hc⟩ := hy.at_ hjl
      have e := Option.some.inj e
      subst e
      have hadd : (⟨b, off, none⟩ : Addr).add j = ⟨b, off + j, none⟩ := by unfold Addr.add; split <;> simp_all
      rw [hadd, hc, ← hy2, ← hje]
      unfold at0 vI
      rw [getD_lt _ _ hjl]) (by omega) (by unfold maxLen; omega) (by omega)
  refine Does.val (w' := w') (v := v') ?_ (hR _ _ (AppI.res (w0 := w) ?_ ⟨e3.os, e3.tape, e3.output, e3.size, fun k hk => e3.block k hk (by intro e; cases e)⟩ (by omega)))
  · simp [execOp, ho, resolve, invoke, builtin, hs, hx, e1, Result.andThen]
  · unfold AppI; simpa using e2
set_option maxRecDepth 100000 in
set_option maxHeartbeats 4000000 in
/-- withDomains: a model with domains of its own. -/
theorem withDomains_any (v vd : Value) (D ds : List Int) (cs : List Con) (w : World) (hM : SMod w v D cs) (hD : SInts w vd ds) (hdp : 0 < ds.length) (hdl : ds.length ≤ 1000000) (hdi : ∀ i, i < ds.length → I64 (at0 ds i)) :
    Calls Try.prog 16 #[v, vd] w (fun e w' => ∃ v', e = .returned v' ∧ SMod w' v' ds cs ∧ Ext w w') := by
  obtain ⟨ve, vc, rfl, hE, hC⟩ := hM
  obtain ⟨Ae, ce, rfl, -, hle⟩ := hE.form
  obtain ⟨Ac, cc, rfl, -, hlc⟩ := hC.form
  obtain ⟨Ad, cd, rfl, -, hld⟩ := hD.form
  obtain ⟨bd, od, had, -, -⟩ := hD.at_ hdp
  have hD0 := hide hD
  have hC0 := hide hC
  clear hE hC hD
  obtain ⟨W1, hW1⟩ : ∃ W1, W1 = ((w.alloc (.cells #[.slice Ae D.length ce, .slice Ac cs.length cc] 26)).alloc (.cells #[.slice none 0 0, .slice none 0 0] 26)) := ⟨_, rfl⟩
  have HX1 := hide (show Ext w W1 by rw [hW1]; exact ((Ext.refl w).alloc _).alloc _)
  have hs : (w.alloc (.cells #[.slice Ae D.length ce, .slice Ac cs.length cc] 26)).heap.size = w.heap.size + 1 := by simp
  have hx : Ext (w.alloc (.cells #[.slice Ae D.length ce, .slice Ac cs.length cc] 26)) W1 := by rw [hW1]; exact (Ext.refl _).alloc _
  have m1 : W1.cell? ⟨w.heap.size, 1, none⟩ = some (.slice Ac cs.length cc) := (hx.cells _ _ (by omega)).trans (World.cell?_alloc_at _ _ _ _ rfl)
  have r0 : W1.cell? ⟨w.heap.size + 1, 0, none⟩ = some (.slice none 0 0) := by rw [hW1]; exact World.cell?_alloc_at _ _ _ _ hs.symm
  have r1 : W1.cell? ⟨w.heap.size + 1, 1, none⟩ = some (.slice none 0 0) := by rw [hW1]; exact World.cell?_alloc_at _ _ _ _ hs.symm
  have z0 : W1.frozen? ⟨w.heap.size + 1, 0, none⟩ = false := by rw [hW1, ← hs]; exact World.frozen?_alloc_new _ _ _ _
  have z1 : W1.frozen? ⟨w.heap.size + 1, 1, none⟩ = false := by rw [hW1, ← hs]; exact World.frozen?_alloc_new _ _ _ _
  have hs1 : w.heap.size + 1 < W1.heap.size := by rw [hW1]; simp
  have hs0 : w.heap.size < W1.heap.size := by omega
  clear hx hs
  go_enter Try.func16, Try.ntmps16
  go_upto_region 1 with fail
  rw [← hW1]
  clear hW1
  refine wp_region_relT (n := 6) (ts := [6]) (sp := [RS.v [] (fun _ v => ∃ b, v = .slice (some ⟨b, 0, none⟩) 0 0), RS.q [] (fun _ => .slice Ad ds.length cd), RS.ow [0, 1] ds W1, RS.q [] (fun _ => .pointer (some ⟨w.heap.size, 1, none⟩)), RS.q [3] (fun _ => .slice Ac cs.length cc), RS.v [2, 4] (fun vs v => v = .agg #[vs.getD 0 undef, .slice Ac cs.length cc])])
    (fun W => Ext W1 W) (by kernel_rfl) (relOK (D := [[], [], [0, 1], [], [3], [2, 4]]) rfl (by kernel_rfl) rfl) (by kernel_rfl) (fun W W' h hx => h.trans hx) ((Ext.refl W1).drew) ?steps ?ends
  case steps =>
    refine ⟨?_, ?_, ?_, ?_, ?_, ?_, trivial⟩
    · intro V τ W hC hf ht h0
      refine Does.val (w' := W.alloc (.cells #[] 3)) (v := .slice (some ⟨W.heap.size, 0, none⟩) 0 0) ?_ ⟨(Ext.refl W).alloc _, _, rfl⟩
      go_simp
    · intro V τ W hC hf ht h0
      have s1 : τ 1 = .slice Ad ds.length cd := h0 1 (by kernel_rfl)
      refine Does.val (w' := W) (v := .slice Ad ds.length cd) ?_ ⟨Ext.refl W, rfl⟩
      go_simp
    · intro V τ W hC hf ht h0
      have f0 : ∃ b, V 0 = .slice (some ⟨b, 0, none⟩) 0 0 := hf 0 (by simp [RS.at_, RS.q, RS.v, RS.ow])
      have s5 : τ 5 = V 0 := ht 0 (by simp [RS.at_, RS.q, RS.v, RS.ow]) 5 rfl
      have f1 : V 1 = .slice Ad ds.length cd := hf 1 (by simp [RS.at_, RS.q, RS.v, RS.ow])
      have s6 := (ht 1 (by simp [RS.at_, RS.q, RS.v, RS.ow]) 6 rfl).trans f1
      obtain ⟨b, hb⟩ := f0
      rw [hb] at s5
      refine doesAppZ (.tmp 5) (.tmp 6) rfl ⟨b, 0, none⟩ ds ⟨bd, od, none⟩ cd s5 (by rw [← had]; exact s6) (by rw [← had]; exact hD0.out.ext (HX1.out.trans hC)) hdp (by omega) fun v' w' hres => ⟨by obtain ⟨_, _, _, _, _, _, _, _, _, _, hx⟩ := hres; exact hx, OwnRes.from hres hC⟩
    · intro V τ W hC hf ht h0
      have s2 : τ 2 = .pointer (some ⟨w.heap.size, 0, none⟩) := h0 2 (by kernel_rfl)
      refine Does.val (w' := W) (v := .pointer (some ⟨w.heap.size, 1, none⟩)) ?_ ⟨Ext.refl W, rfl⟩
      go_simp
    · intro V τ W hC hf ht h0
      have f3 : V 3 = .pointer (some ⟨w.heap.size, 1, none⟩) := hf 3 (by simp [RS.at_, RS.q, RS.v, RS.ow])
      have s8 := (ht 3 (by simp [RS.at_, RS.q, RS.v, RS.ow]) 8 rfl).trans f3
      have m1 := (hC.cells _ _ hs0).trans m1
      refine Does.val (w' := W) (v := .slice Ac cs.length cc) ?_ ⟨Ext.refl W, rfl⟩
      go_simp
    · intro V τ W hC hf ht h0
      have f2 : OwnRes ds W1 (.returned (V 2)) W := hf 2 (by simp [RS.at_, RS.q, RS.v, RS.ow])
      have s7 : τ 7 = V 2 := ht 2 (by simp [RS.at_, RS.q, RS.v, RS.ow]) 7 rfl
      have f4 : V 4 = .slice Ac cs.length cc := hf 4 (by simp [RS.at_, RS.q, RS.v, RS.ow])
      have s9 := (ht 4 (by simp [RS.at_, RS.q, RS.v, RS.ow]) 9 rfl).trans f4
      obtain ⟨A8, c8, e8⟩ := f2.form
      rw [e8] at s7
      clear f2
      refine Does.val (w' := W) (v := .agg #[.slice A8 ds.length c8, .slice Ac cs.length cc]) ?_ ⟨Ext.refl W, by show _ = Value.agg #[V 2, _]; rw [e8]⟩
      go_simp
  case ends =>
    intro V W hC hf
    have e0 : ∃ b, V 0 = .slice (some ⟨b, 0, none⟩) 0 0 := hf 0 (by omega)
    have e1 : V 1 = .slice Ad ds.length cd := hf 1 (by omega)
    have e2 : OwnRes ds W1 (.returned (V 2)) W := hf 2 (by omega)
    have e3 : V 3 = .pointer (some ⟨w.heap.size, 1, none⟩) := hf 3 (by omega)
    have e4 : V 4 = .slice Ac cs.length cc := hf 4 (by omega)
    have e5 : V 5 = .agg #[V 2, .slice Ac cs.length cc] := hf 5 (by omega)
    clear hf
    obtain ⟨b, e0⟩ := e0
    have HR := hide e2
    obtain ⟨A8, c8, e2⟩ := e2.form
    rw [e2] at e5 HR
    simp only [List.take_succ_cons, List.take_zero, putAll, Act.put, List.setIfInBounds_toArray, List.set_cons_succ, List.set_cons_zero, Nat.reduceAdd, e0, e1, e2, e3, e4, e5]
    simp only [nths, nth1]
    have r0 := (hC.cells _ _ hs1).trans r0
    have r1 := (hC.cells _ _ hs1).trans r1
    have z0 := (hC.frz _ _ hs1).trans z0
    have z1 := (hC.frz _ _ hs1).trans z1
    have HXW := hide (HX1.out.trans hC)
    have hsw := hC.size
    clear e0 e1 e2 e3 e4 e5 hC
    go_wp2_with fail
    refine bodyPost_ret (v := .agg #[.slice A8 ds.length c8, .slice Ac cs.length cc]) (by simp only [results, Try.results16]; go_simp) rfl ?_
    have hi := HR.out.ints hdi
    have hx2 : Ext w ((W.setCell ⟨w.heap.size + 1, 0, none⟩ (.slice A8 ds.length c8)).setCell ⟨w.heap.size + 1, 1, none⟩ (.slice Ac cs.length cc)) := (HXW.out.set (by show w.heap.size ≤ w.heap.size + 1; omega) _).set (by show w.heap.size ≤ w.heap.size + 1; omega) _
    refine ⟨_, rfl, ⟨_, _, rfl, (hi.setNo r0 (fun n h => by cases h)).setNo ((World.cell?_setCell_other _ _ _ _ (by intro e; injection e with _ e; omega)).trans r1) (fun n h => by cases h), hC0.out.ext hx2⟩, hx2⟩
end Go.Proofs.Ytgeflejmdlipmaa
/- DomainValues of the program. -/
namespace Go.Proofs.Ytgeflejmdlipmaa
open Go.RowKit

set_option maxHeartbeats 1000000 in
theorem DomainValuesI_any (d : Int) (w : World) (hd : vDom d = true) : Calls Try.prog 10 #[.int .i64 d] w (OwnRes (domL d) w) := by
  have h2 : 0 ≤ d ∧ d ≤ 63 := by simpa [vDom, inR] using hd
  have HVV := hide hd
  clear hd
  go_enter Try.func10, Try.ntmps10
  go_wp2_with (go_at_call 29; refine (ValidDomain_any _ _).mono ?_; rintro e w' ⟨rfl, rfl⟩; rw [HVV.out])
  refine (valuesOf_any d _ h2.1 (by omega)).mono ?_
  rintro e w2 ⟨A5, c5, b5, m5, f5, rfl, q1, q2, q3, q4, q5⟩
  have HE := hide (show OwnRes (domL d) w (.returned (.slice A5 (domL d).length c5)) w2 from ⟨A5, c5, b5, m5, f5, rfl, q1, q2, q3, q4, q5⟩)
  clear q1 q2 q3 q4 q5
  go_wp2
  go_ret
  exact HE.out
end Go.Proofs.Ytgeflejmdlipmaa
