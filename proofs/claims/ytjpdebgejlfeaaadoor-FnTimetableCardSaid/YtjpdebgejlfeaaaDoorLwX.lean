/- What the laws call: equalInts, contained, withDomains; Propagate and IsConsistent of the program. -/
import Derived.Test.YtjpdebgejlfeaaaDoorQ11
import Derived.Test.YtjpdebgejlfeaaaDoorUtlA
import Derived.Deep.CutBlock
import Derived.Deep.DeepCutAuto
import Derived.Test.YtjpdebgejlfeaaaDoorDvZ
namespace Go.Proofs.YtjpdebgejlfeaaaDoor
open Go.RowKit
attribute [local go_sem] evalOf
set_option maxHeartbeats 2000000 in
theorem equalInts_any (v v' : Value) (xs ys : List Int) (w : World) (hS : SInts w v xs) (hS' : SInts w v' ys) : Calls Tryd.prog 15 #[v, v'] w (Ret (.bool (decide (xs = ys))) w) := by
  have hS0 := hide hS
  have hS0' := hide hS'
  obtain ⟨A, c, rfl, -, hln⟩ := hS.form
  obtain ⟨A', c', rfl, -, hln'⟩ := hS'.form
  clear hS hS'
  by_cases hl : xs.length = ys.length
  · have hl' : ((xs.length : Int) != (ys.length : Int)) = false := by simp [hl]
    have HL := hide hl
    clear hl
    go_enter Tryd.func15, Tryd.ntmps15
    go_wp2
    go_loopw [5] (fun i wr => ∃ k : Nat, k ≤ xs.length ∧ i = .int .i64 k ∧ Ext w wr ∧ ∀ j, j < k → at0 xs j = at0 ys j) (fun i _ => xs.length - (intOf i).toNat)
    case atStart => exact ⟨0, Nat.zero_le _, rfl, Ext.refl w, fun j hj => by omega⟩
    case round =>
      obtain ⟨k, hk, rfl, hxr, hq⟩ := hrel
      have HQ := hide hq
      clear hq
      by_cases hlt : k < xs.length
      · have hlt' : k < ys.length := by have := HL.out; omega
        have hkI : (k : Int) < xs.length := by omega
        have hkI' : (k : Int) < ys.length := by omega
        obtain ⟨b, off, rfl, hbl, f1⟩ := (hS0.out.ext hxr).at_ hlt
        obtain ⟨b', off', rfl, hbl', f1'⟩ := (hS0'.out.ext hxr).at_ hlt'
        go_wp2
        refine wp_region_ext (by kernel_rfl) (by kernel_rfl) ?_
        iterate 9 (apply quiet_val; (focus rfl); (focus (intro w' hw'; have hk' := hw'.cells; go_simp; all_goals exact rfl)); simp only [Act.put, List.setIfInBounds_toArray, List.set_cons_succ, List.set_cons_zero])
        refine wpQuiet_nil ?_
        intro w2 hx2
        have HX2 := hide (hxr.trans hx2)
        clear hx2 f1 f1'
        by_cases he : at0 xs k = at0 ys k
        · have he' : (at0 xs k != at0 ys k) = false := by simp [he]
          have HE := hide he
          clear he
          go_wp2
          go_roundw
          case rel => exact ⟨k + 1, by omega, by go_num, HX2.out, fun j hj => by
            by_cases e : j = k
            · subst e; exact HE.out
            · exact HQ.out j (by omega)⟩
          case measure => simp [intOf]; omega
        · have he' : (at0 xs k != at0 ys k) = true := by simpa using he
          have HE := hide he
          clear he
          go_wp2
          go_ret
          exact Ret.mk (ret_b (by symm; rw [decide_eq_false_iff_not]; intro e; exact HE.out (by rw [e]))) HX2.out
      · obtain rfl : k = xs.length := by omega
        go_wp2
        go_ret
        refine Ret.mk (ret_b ?_) hxr
        symm
        rw [decide_eq_true_iff]
        refine List.ext_getElem HL.out fun i h1 h2 => ?_
        have := HQ.out i h1
        unfold at0 at this
        rwa [getD_lt _ _ h1, getD_lt _ _ h2] at this
  · have hl' : ((xs.length : Int) != (ys.length : Int)) = true := by rw [bne_iff_ne]; omega
    have HL := hide hl
    clear hl
    go_enter Tryd.func15, Tryd.ntmps15
    go_wp2
    go_ret
    exact Ret.mk (ret_b (by symm; rw [decide_eq_false_iff_not]; intro e; exact HL.out (by rw [e]))) (Ext.refl w)

theorem and_sub {a b : Int} (ha : 0 ≤ a ∧ a ≤ 63) (hb : 0 ≤ b ∧ b ≤ 63) (h : ∀ v, v < 6 → hasB a v = true → hasB b v = true) : bits .and .i64 a b = a := by
  have key : ((List.range 64).all fun i => (List.range 64).all fun j => !((List.range 6).all fun v => !(hasB (i : Int) v) || hasB (j : Int) v) || (bits .and .i64 (i : Int) (j : Int) == (i : Int))) = true := by decide +kernel
  rw [List.all_eq_true] at key
  have k1 := key a.toNat (List.mem_range.2 (by omega))
  rw [List.all_eq_true] at k1
  have k2 := k1 b.toNat (List.mem_range.2 (by omega))
  rw [show ((a.toNat : Nat) : Int) = a by omega, show ((b.toNat : Nat) : Int) = b by omega] at k2
  have k3 : ((List.range 6).all fun v => !(hasB a v) || hasB b v) = true := by
    rw [List.all_eq_true]
    intro v hv
    have := h v (by simpa using hv)
    cases e : hasB a v
    · rfl
    · rw [this e]; rfl
  rw [k3] at k2
  simpa using k2
set_option maxHeartbeats 2000000 in
theorem contained_any (v v' : Value) (xs ys : List Int) (w : World) (hS : SInts w v xs) (hS' : SInts w v' ys) (hs : SubD xs ys) (hx : DomL xs) (hy : DomL ys) : Calls Tryd.prog 17 #[v, v'] w (Ret (.bool true) w) := by
  have hS0 := hide hS
  have hS0' := hide hS'
  have HSUB := hide hs
  have HX := hide hx
  have HY := hide hy
  obtain ⟨A, c, rfl, -, hln⟩ := hS.form
  obtain ⟨A', c', rfl, -, hln'⟩ := hS'.form
  have hl' : ((xs.length : Int) != (ys.length : Int)) = false := by simp [hs.len]
  clear hS hS' hs hx hy
  go_enter Tryd.func17, Tryd.ntmps17
  go_wp2
  go_loopw [5] (fun i wr => ∃ k : Nat, k ≤ xs.length ∧ i = .int .i64 k ∧ Ext w wr) (fun i _ => xs.length - (intOf i).toNat)
  case atStart => exact ⟨0, Nat.zero_le _, rfl, Ext.refl w⟩
  case round =>
    obtain ⟨k, hk, rfl, hxr⟩ := hrel
    by_cases hlt : k < xs.length
    · have hlt' : k < ys.length := by have := HSUB.out.len; omega
      have hkI : (k : Int) < xs.length := by omega
      have hkI' : (k : Int) < ys.length := by omega
      obtain ⟨b, off, rfl, hbl, f1⟩ := (hS0.out.ext hxr).at_ hlt
      obtain ⟨b', off', rfl, hbl', f1'⟩ := (hS0'.out.ext hxr).at_ hlt'
      have hand := and_sub (HX.out k hlt) (HY.out k hlt') (fun v hv hh => HSUB.out.sub k hlt v hv hh)
      go_wp2
      refine wp_region_ext (by kernel_rfl) (by kernel_rfl) ?_
      iterate 14 (apply quiet_val; (focus rfl); (focus (intro w' hw'; have hk' := hw'.cells; go_simp; all_goals exact rfl)); simp only [Act.put, List.setIfInBounds_toArray, List.set_cons_succ, List.set_cons_zero])
      refine wpQuiet_nil ?_
      intro w2 hx2
      have HX2 := hide (hxr.trans hx2)
      clear hx2 f1 f1'
      go_wp2
      go_roundw
      case rel => exact ⟨k + 1, by omega, by go_num, HX2.out⟩
      case measure => simp [intOf]; omega
    · obtain rfl : k = xs.length := by omega
      go_wp2
      go_ret
      exact Ret.mk rfl hxr
/-- The value of Propagate. -/
def prpV (ds : List Int) (cs : List Con) : List Int := if vMod ds cs = true then propL cs ds else []
set_option maxRecDepth 100000 in
set_option maxHeartbeats 4000000 in
theorem PropagateI_any (v : Value) (ds : List Int) (cs : List Con) (w : World) (hM : SMod w v ds cs) :
    Calls Tryd.prog 18 #[v] w (OwnRes (prpV ds cs) w) := by
  have hM0 := hide hM
  obtain ⟨ve, vc, rfl, hE, hC⟩ := hM
  obtain ⟨Ae, ce, rfl, -, hle⟩ := hE.form
  obtain ⟨Ac, cc, rfl, -, hlc⟩ := hC.form
  obtain ⟨w0, hw0⟩ : ∃ w0, w0 = w.alloc (.cells #[.slice Ae ds.length ce, .slice Ac cs.length cc] 38) := ⟨_, rfl⟩
  have hx0 : Ext w w0 := by rw [hw0]; exact (Ext.refl w).alloc _
  have k0 : w0.cell? ⟨w.heap.size, 0, none⟩ = some (.slice Ae ds.length ce) := by rw [hw0]; go_simp
  have k1 : w0.cell? ⟨w.heap.size, 1, none⟩ = some (.slice Ac cs.length cc) := by rw [hw0]; go_simp
  have ks : w.heap.size < w0.heap.size := by rw [hw0]; simp
  have HX0 := hide hx0
  have hEE := hide hE
  have hE0 := hide (hE.ext hx0)
  have hC0 := hide (hC.ext hx0)
  clear hE hC hx0
  go_enter Tryd.func18, Tryd.ntmps18
  go_wp2_with fail
  rw [← hw0]
  clear hw0
  refine (ValidModelI_any _ _ ds cs _ hE0.out hC0.out (fun i _ => fits_all _)).mono ?_
  rintro e w1 ⟨rfl, hx1⟩
  have HX1 := hide (HX0.out.trans hx1)
  have k0 := (hx1.cells _ _ ks).trans k0
  have k1 := (hx1.cells _ _ ks).trans k1
  clear hx1
  cases hv : vMod ds cs with
  | false =>
    have HV := hide (show prpV ds cs = [] by rw [prpV, hv]; rfl)
    clear hv
    go_wp2
    go_ret
    rw [HV.out]
    exact OwnRes.nil_ rfl HX1.out
  | true =>
    have HV := hide (show prpV ds cs = propL cs ds by rw [prpV, hv]; rfl)
    obtain ⟨hG, hp, h4⟩ := vMod_good hv
    have HG := hide hG
    clear hv hG
    go_wp2_with fail
    refine (propagate_any _ _ ds ds cs _ (hM0.out.ext HX1.out) (hEE.out.ext HX1.out) HG.out h4 hp).mono ?_
    rintro e w2 hres
    have HRES := hide (show OwnRes (prpV ds cs) w e w2 by rw [HV.out]; exact OwnRes.from hres HX1.out)
    obtain ⟨A3, c3, b3, m3, f3, rfl, -⟩ := hres
    obtain ⟨L, hL⟩ : ∃ L, L = (propL cs ds).length := ⟨_, rfl⟩
    rw [← hL] at HRES ⊢
    clear hL
    go_wp2
    go_ret
    exact HRES.out
/-- append to an empty row: a word on a value alone. -/
def RS.v (D : List Nat) (g : List Value → Value → Prop) : RS := ⟨D, fun vs v _ => g vs v, fun _ _ _ _ h _ => h⟩
/-- append to an empty row of no capacity: a new row. -/
theorem doesAppZ {o : Oper} {ρ : Operand → Value} {w : World} {R : Value → World → Prop} (s x : Operand) (ho : o.op = .call { callee := .builtin .append, args := #[s, x], argTypes := #[24, 24] }) (g : Addr) (xs : List Int) (ad : Addr) (c : Nat)
    (hs : ρ s = .slice (some g) 0 0) (hx : ρ x = .slice (some ad) xs.length c) (hy : SInts w (.slice (some ad) xs.length c) xs) (hp : 0 < xs.length) (hl : xs.length ≤ 1000000) (hR : ∀ v' w', OwnRes xs w (.returned v') w' → R v' w') : Does Tryd.prog o ρ w R := by
  obtain ⟨i, hi, hz, hsz, hby⟩ := Tryd.infoIp
  obtain ⟨v', w', e1, e2, e3⟩ := run_append_arg_grows (P := Tryd.prog) w 24 o.type 3 i (.int .i64 0) 1 8 Tryd.underlying24 hi hz hsz hby rfl (by omega) g 0 0 [] (by simp) (fun j u hj => by simp at hj) ad xs.length c (xs.map vI) (by simp)
    (fun j u hj => by
      rw [List.getElem?_map] at hj
      obtain ⟨y, hy1, hy2⟩ := Option.map_eq_some_iff.1 hj
      obtain ⟨hjl, hje⟩ := List.getElem?_eq_some_iff.1 hy1
      obtain ⟨b, off, e, hb, hc⟩ := hy.at_ hjl
      have e := Option.some.inj e
      subst e
      have hadd : (⟨b, off, none⟩ : Addr).add j = ⟨b, off + j, none⟩ := by unfold Addr.add; split <;> simp_all
      rw [hadd, hc, ← hy2, ← hje]
      unfold at0 vI
      rw [getD_lt _ _ hjl]) (by omega) (by unfold maxLen; omega) (by omega)
  refine Does.val (w' := w') (v := v') ?_ (hR _ _ (AppI.res (w0 := w) ?_ ⟨e3.os, e3.tape, e3.output, e3.size, fun k hk => e3.block k hk (by intro e; cases e)⟩ (by omega)))
  · simp [execOp, ho, resolve, invoke, builtin, hs, hx, e1, Result.andThen]
  · unfold AppI; simpa using e2
end Go.Proofs.YtjpdebgejlfeaaaDoor
/- DomainValues of the program. -/
namespace Go.Proofs.YtjpdebgejlfeaaaDoor
open Go.RowKit

end Go.Proofs.YtjpdebgejlfeaaaDoor
/- DomainHas of the program. -/
namespace Go.Proofs.YtjpdebgejlfeaaaDoor
open Go.RowKit

def hasD (d v : Int) : Bool := vDom d && (inR v 0 5 && hasB d v.toNat)
theorem hasD_iff {d v : Int} (h : hasD d v = true) : ∃ u : Nat, u < 6 ∧ v = u ∧ hasB d u = true := by
  simp only [hasD, Bool.and_eq_true, inR, decide_eq_true_eq] at h
  obtain ⟨-, ⟨h1, h2⟩, h3⟩ := h
  exact ⟨v.toNat, by omega, by omega, h3⟩
end Go.Proofs.YtjpdebgejlfeaaaDoor
