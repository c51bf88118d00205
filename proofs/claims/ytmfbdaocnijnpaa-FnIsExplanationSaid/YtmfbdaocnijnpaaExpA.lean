/- Explain, in plain Lean: the values that are missing; what both sides return. -/
import Derived.Test.YtmfbdaocnijnpaaShrR
import Derived.Test.YtmfbdaocnijnpaaGenS
namespace Go.Proofs.Ytmfbdaocnijnpaa
open Go.RowKit

/-- The first k values that a domain lacks, but for r. -/
def rmI (d : Int) (i : Nat) (r : Rm) : Nat → List Rm
  | 0 => []
  | v + 1 => if (!hasB d v && !((i : Int) == r.x && (v : Int) == r.v)) = true then rmI d i r v ++ [⟨i, v⟩] else rmI d i r v
def rmA (ds : List Int) (r : Rm) : Nat → List Rm
  | 0 => []
  | i + 1 => rmA ds r i ++ rmI (at0 ds i) i r 6
def rmI0 (d : Int) (i : Nat) : Nat → List Rm
  | 0 => []
  | v + 1 => if hasB d v = true then rmI0 d i v else rmI0 d i v ++ [⟨i, v⟩]
def rmA0 (ds : List Int) : Nat → List Rm
  | 0 => []
  | i + 1 => rmA0 ds i ++ rmI0 (at0 ds i) i 6
def neR (r x : Rm) : Bool := !(x.x == r.x && x.v == r.v)
theorem rmI_filter (d : Int) (i : Nat) (r : Rm) : ∀ v, (rmI0 d i v).filter (neR r) = rmI d i r v
  | 0 => rfl
  | v + 1 => by
    rw [rmI0, rmI]
    cases h : hasB d v with
    | true => simp [rmI_filter d i r v]
    | false =>
      rw [if_neg (by simp), List.filter_append, rmI_filter d i r v]
      cases h2 : neR r ⟨i, v⟩ with
      | true =>
        have h3 : (!((i : Int) == r.x && (v : Int) == r.v)) = true := h2
        simp [h2, h3]
      | false =>
        have h3 : (!((i : Int) == r.x && (v : Int) == r.v)) = false := h2
        simp [h2, h3]
theorem rmA_filter (ds : List Int) (r : Rm) : ∀ i, (rmA0 ds i).filter (neR r) = rmA ds r i
  | 0 => rfl
  | i + 1 => by rw [rmA0, rmA, List.filter_append, rmA_filter ds r i, rmI_filter]
theorem rmI0_len (d : Int) (i : Nat) : ∀ v, (rmI0 d i v).length ≤ v
  | 0 => by simp [rmI0]
  | v + 1 => by
    have := rmI0_len d i v
    rw [rmI0]
    split
    · omega
    · simp; omega
theorem rmA0_len (ds : List Int) : ∀ i, (rmA0 ds i).length ≤ 6 * i
  | 0 => by simp [rmA0]
  | i + 1 => by
    have := rmA0_len ds i
    have := rmI0_len (at0 ds i) i 6
    rw [rmA0, List.length_append]; omega
theorem rmI_len (d : Int) (i : Nat) (r : Rm) (v : Nat) : (rmI d i r v).length ≤ v := by
  rw [← rmI_filter]
  exact Nat.le_trans (List.length_filter_le _ _) (rmI0_len d i v)
theorem rmA_len (ds : List Int) (r : Rm) (i : Nat) : (rmA ds r i).length ≤ 6 * i := by
  rw [← rmA_filter]
  exact Nat.le_trans (List.length_filter_le _ _) (rmA0_len ds i)
theorem rmI0_mem (d : Int) (i : Nat) : ∀ v x, x ∈ rmI0 d i v → x.x = i ∧ 0 ≤ x.v ∧ x.v < v
  | 0, x, h => by simp [rmI0] at h
  | v + 1, x, h => by
    rw [rmI0] at h
    split at h
    · have := rmI0_mem d i v x h; omega
    · rcases List.mem_append.1 h with h | h
      · have := rmI0_mem d i v x h; omega
      · simp at h; subst h; simp; omega
theorem rmA0_mem (ds : List Int) : ∀ i x, x ∈ rmA0 ds i → 0 ≤ x.x ∧ x.x < i ∧ 0 ≤ x.v ∧ x.v < 6
  | 0, x, h => by simp [rmA0] at h
  | i + 1, x, h => by
    rw [rmA0] at h
    rcases List.mem_append.1 h with h | h
    · have := rmA0_mem ds i x h; omega
    · have := rmI0_mem _ _ 6 x h; omega
theorem okRms_iff {rs : List Rm} {n : Int} : okRms rs n = true ↔ (∀ x ∈ rs, okRm x n = true) ∧ rs.length ≤ 24 := by
  unfold okRms
  rw [Bool.and_eq_true, Bool.not_eq_true', anyB_false, decide_eq_true_iff]
  refine and_congr_left fun _ => ⟨fun h x hx => ?_, fun h i hi => ?_⟩
  · obtain ⟨i, hi, rfl⟩ := List.mem_iff_getElem.1 hx
    have := h i hi
    unfold rm0 at this
    rw [getD_lt _ _ hi] at this
    simpa using this
  · unfold rm0
    rw [getD_lt _ _ hi, h _ (List.getElem_mem hi)]; rfl
theorem rmA_ok (ds : List Int) (r : Rm) (n : Nat) (h4 : n ≤ 4) : okRms (rmA ds r n) n = true := by
  rw [okRms_iff]
  refine ⟨fun x hx => ?_, by have := rmA_len ds r n; omega⟩
  rw [← rmA_filter] at hx
  obtain ⟨h1, h2, h3, h4⟩ := rmA0_mem ds n x (List.mem_filter.1 hx).1
  simp [okRm, inR]
  omega
theorem okRms_erase {rs : List Rm} {n : Int} (i : Nat) (h : okRms rs n = true) : okRms (rs.eraseIdx i) n = true := by
  rw [okRms_iff] at h ⊢
  exact ⟨fun x hx => h.1 x (List.mem_of_mem_eraseIdx hx), Nat.le_trans (List.length_eraseIdx_le _ _) h.2⟩
def xplOk (c : Con) (ds : List Int) (r : Rm) : Bool := (inR ds.length 1 4 && allR ds 0 63) && (vCon c ds.length && okRm r ds.length)
def xplB (c : Con) (ds : List Int) (r : Rm) : Bool := xplOk c ds r && explB c ds.length (rmA ds r ds.length) r
def xplL (c : Con) (ds : List Int) (r : Rm) : List Rm := if xplB c ds r = true then shr (fun l => explB c ds.length l r) (rmA ds r ds.length).length 0 (rmA ds r ds.length) else []
theorem xplL_no {c : Con} {ds : List Int} {r : Rm} (h : xplB c ds r = false) : xplL c ds r = [] := by rw [xplL, h]; rfl
theorem xplL_yes {c : Con} {ds : List Int} {r : Rm} (h : xplB c ds r = true) : xplL c ds r = shr (fun l => explB c ds.length l r) (rmA ds r ds.length).length 0 (rmA ds r ds.length) := by rw [xplL, if_pos h]
theorem xplOk_len {c : Con} {ds : List Int} {r : Rm} (h : xplOk c ds r = true) : 1 ≤ ds.length ∧ ds.length ≤ 4 ∧ DomL ds := by
  simp only [xplOk, Bool.and_eq_true, inR, decide_eq_true_eq] at h
  exact ⟨by omega, by omega, DomL.of h.1.2⟩
theorem xplL_len (c : Con) (ds : List Int) (r : Rm) : (xplL c ds r).length ≤ 24 := by
  cases h : xplB c ds r with
  | false => rw [xplL_no h]; simp
  | true =>
    have hk : xplOk c ds r = true := by rw [xplB, Bool.and_eq_true] at h; exact h.1
    rw [xplL_yes h]
    exact okRms_len (shr_G (G := fun l => okRms l ds.length = true) (fun l i h => okRms_erase i h) _ _ _ (rmA_ok ds r _ (xplOk_len hk).2.1))

theorem layRm_S {w : World} {v : Value} {rs : List Rm} (h : layRm.S w v rs) : SRm w v rs := by
  obtain ⟨A, c, h1, h2, h3, h5⟩ := h
  refine ⟨A, c, h1, h2, h3, fun hp => ?_⟩
  obtain ⟨b, off, e, hb, hc⟩ := h5 hp
  refine ⟨b, off, e, hb, fun i hi => ?_⟩
  have e0 := layRmOk.flat_at rs i 0 hi (by show 0 < 2; omega)
  have e1 := layRmOk.flat_at rs i 1 hi (by show 1 < 2; omega)
  have g0 := hc _ _ (e0.trans rfl)
  have g1 := hc _ _ (e1.trans rfl)
  unfold rmX rmV rm0
  rw [getD_lt _ _ hi]
  exact ⟨g0, g1⟩
theorem layRm_of {w : World} {v : Value} {rs : List Rm} (h : SRm w v rs) : layRm.S w v rs := by
  obtain ⟨A, c, h1, h2, h3, h5⟩ := h
  refine ⟨A, c, h1, h2, h3, fun hp => ?_⟩
  obtain ⟨b, off, e, hb, hc⟩ := h5 hp
  refine ⟨b, off, e, hb, fun j u hj => ?_⟩
  have hjl : j < rs.length * 2 := by
    have := (List.getElem?_eq_some_iff.1 hj).1
    rwa [layRmOk.flen] at this
  have hi : j / 2 < rs.length := by omega
  obtain ⟨g0, g1⟩ := hc (j / 2) hi
  unfold rmX rm0 at g0
  unfold rmV rm0 at g1
  rw [getD_lt _ _ hi] at g0 g1
  have e2 : j = j / 2 * 2 + j % 2 := by omega
  have := layRmOk.flat_at rs (j / 2) (j % 2) hi (by show j % 2 < 2; omega)
  rw [show j / 2 * layRm.size + j % 2 = j from e2.symm, hj] at this
  rcases (show j % 2 = 0 ∨ j % 2 = 1 by omega) with h | h
  · rw [h] at this
    have hu : u = .int .i64 (rs[j / 2]).x := by injection this
    rw [hu, show off + j = off + j / 2 * 2 by omega]; exact g0
  · rw [h] at this
    have hu : u = .int .i64 (rs[j / 2]).v := by injection this
    rw [hu, show off + j = off + j / 2 * 2 + 1 by omega]; exact g1
/-- The result: reasons in a slice of its own, and whether there are any. -/
def RmRes (xs : List Rm) (ok : Bool) (w : World) (e : Ending) (w' : World) : Prop :=
  ∃ A b m f, e = .returned (.tuple #[.slice A xs.length xs.length, .bool ok]) ∧ w.heap.size ≤ b ∧ layRm.Own w' A b m f xs ∧ Ext w w'
def RmOut (xs : List Rm) (ok : Bool) (w : World) (e : Ending) (w' : World) : Prop :=
  ∃ A c, e = .returned (.tuple #[.slice A xs.length c, .bool ok]) ∧ SRm w' (.slice A xs.length c) xs ∧ Ext w w'
theorem RmOut.nil_ {w w' : World} {ok : Bool} {e : Ending} (he : e = .returned (.tuple #[.slice none 0 0, .bool ok])) (hx : Ext w w') : RmOut [] ok w e w' :=
  ⟨none, 0, he, ⟨none, 0, rfl, Nat.le_refl _, by simp, fun hp => absurd hp (by simp)⟩, hx⟩
theorem RmRes.nil_ {w w' : World} {ok : Bool} {e : Ending} (he : e = .returned (.tuple #[.slice none 0 0, .bool ok])) (hx : Ext w w') : RmRes [] ok w e w' :=
  ⟨none, w.heap.size, 0, fun _ => undef, he, Nat.le_refl _, fun hp => absurd hp (by simp), hx⟩
end Go.Proofs.Ytmfbdaocnijnpaa
/- Explain: the reference's. -/
namespace Go.Proofs.Ytmfbdaocnijnpaa
open Go.RowKit
attribute [local go_sem] evalOf

/-- What is left of a region runs in one order only. -/
theorem wpAny_sq {P : Program} {Q : Exit → Act → World → Prop} {a : Act} {w : World} {f : Nat} {l : List Oper} {S0 : Array Bool} (ts : List Nat)
    (hB : ((ts.all fun k => decide (k < l.length)) && seqIx .any l.toArray ts S0) = true) (hf : f = ts.length) (h : wpList P l.toArray Q (nths l ts) a w) : wpAny P .any l.toArray Q f S0 a w := by
  subst hf
  simp only [Bool.and_eq_true] at hB
  exact wpAny_of_seqIx ts (nths l ts) S0 a w (nths_eq l ts hB.1) hB.2 h
set_option maxRecDepth 100000 in
set_option maxHeartbeats 2000000 in
theorem validDomains_any (v : Value) (ds : List Int) (w : World) (hS : SInts w v ds) :
    Calls Try.prog 30 #[v] w fun e w' => e = .returned (.bool (inR ds.length 1 4 && allR ds 0 63)) ∧ w = w' := by
  have hS0 := hide hS
  obtain ⟨A, cp, rfl, hl, hlen⟩ := hS.form
  clear hS
  go_enter Try.func30, Try.ntmps30
  go_wp2
  go_loop [3] (fun i => ∃ k : Nat, i = .int .i64 k ∧ k ≤ ds.length ∧ ∀ j, j < k → inR (at0 ds j) 0 63 = true) (fun i => ds.length - (intOf i).toNat)
  case atStart => exact ⟨0, rfl, Nat.zero_le _, fun j hj => by omega⟩
  case round =>
    obtain ⟨k, rfl, hk, hall⟩ := hrel
    have HALL := hide hall
    clear hall
    by_cases hlt : k < ds.length
    · have hkI : (k : Int) < ds.length := by omega
      obtain ⟨b, off, rfl, hbl, f1⟩ := hS0.out.at_ hlt
      cases hq : inR (at0 ds k) 0 63 with
      | true =>
        have HQ := hide hq
        clear hq
        go_wp2_with (go_at_call 56; refine (validDomS_any _ _).mono ?_; rintro e w' ⟨rfl, rfl⟩; rw [HQ.out])
        go_round
        case rel => exact ⟨k + 1, by go_num, by omega, fun j hj => by
          by_cases e : j = k
          · subst e; exact HQ.out
          · exact HALL.out j (by omega)⟩
        case measure => simp [intOf]; omega
      | false =>
        have HQ := hide hq
        have HV := hide (show (inR ds.length 1 4 && allR ds 0 63) = false by rw [allR_no hlt hq, Bool.and_false])
        clear hq
        go_wp2_with (go_at_call 56; refine (validDomS_any _ _).mono ?_; rintro e w' ⟨rfl, rfl⟩; rw [HQ.out])
        go_ret
        exact ⟨ret_b HV.out.symm, rfl⟩
    · obtain rfl : k = ds.length := by omega
      have hkI : ¬ ((ds.length : Int) < ds.length) := by omega
      have HV := hide (show (inR ds.length 1 4 && allR ds 0 63) = inR ds.length 1 4 by rw [allR_of HALL.out, Bool.and_true])
      go_wp2_with fail
      refine (inRange_any _ _ _ _).mono ?_
      rintro e w' ⟨rfl, rfl⟩
      go_wp2
      go_ret
      exact ⟨ret_b HV.out.symm, rfl⟩
set_option maxRecDepth 100000 in
set_option maxHeartbeats 4000000 in
theorem removals_any (v : Value) (ds : List Int) (w : World) (hS : SInts w v ds) (hD : DomL ds) (h4 : ds.length ≤ 4) :
    Calls Try.prog 31 #[v] w (layRm.Res (rmA0 ds ds.length) w) := by
  have hS0 := hide hS
  obtain ⟨A, cp, rfl, hl, hlen⟩ := hS.form
  have HD := hide hD
  have HBY := hide (show layRm.bytes = 16 from rfl)
  clear hS hD
  go_enter Try.func31, Try.ntmps31
  go_wp2
  have HX0 := hide ((Ext.refl w).alloc (.cells #[] 29))
  have HA0 := hide (LayApp.empty (L := layRm) w (o := .cells #[] 29) rfl)
  go_loopw [3, 4] (fun o i wr => ∃ k : Nat, k ≤ ds.length ∧ i = .int .i64 k ∧ Ext w wr ∧ layRm.App w.heap.size wr o (rmA0 ds k)) (fun _ i _ => ds.length - (intOf i).toNat)
  case atStart => exact ⟨0, Nat.zero_le _, rfl, HX0.out, HA0.out⟩
  case round =>
    obtain ⟨k, hk, rfl, hx, hA⟩ := hrel
    have HX := hide hx
    have HA := hide hA
    obtain ⟨A1, c1, rfl, -, -⟩ := LayApp.form hA
    clear hA
    by_cases hlt : k < ds.length
    · have hkI : (k : Int) < ds.length := by omega
      obtain ⟨b, off, rfl, hbl, -⟩ := hS0.out.at_ hlt
      obtain ⟨d, hd⟩ : ∃ d, d = at0 ds k := ⟨_, rfl⟩
      have hdb := HD.out k hlt
      rw [← hd] at hdb
      have HDD := hide hd
      clear hd hx
      obtain ⟨W0, rfl⟩ : ∃ W0, W0 = wr := ⟨wr, rfl⟩
      go_wp2
      go_loopw [3, 5] (fun o i wr => ∃ u : Nat, u ≤ 6 ∧ i = .int .i64 u ∧ Ext w wr ∧ layRm.App w.heap.size wr o (rmA0 ds k ++ rmI0 d k u)) (fun _ i _ => 6 - (intOf i).toNat)
      case atStart => exact ⟨0, by omega, rfl, HX.out, by rw [rmI0, List.append_nil]; exact HA.out⟩
      case round =>
        obtain ⟨u, hu, rfl, hx2, hA2⟩ := hrel
        have HX2 := hide hx2
        have HA2 := hide hA2
        obtain ⟨A2, c2, hv, -, -⟩ := LayApp.form hA2
        obtain ⟨N, hN⟩ : ∃ N, N = (rmA0 ds k ++ rmI0 d k u).length := ⟨_, rfl⟩
        rw [← hN] at hv
        subst hv
        clear hN
        have hlen1 := rmA0_len ds k
        have hlen2 := rmI0_len d k u
        have hs := hx2.size
        have hcell := (hx2.cells b (off + k) hbl).trans (hS0.out.cell_ hlt)
        rw [← HDD.out] at hcell
        by_cases hul : u < 6
        · have huI : (u : Int) ≤ 5 := by omega
          have hu5 : u ≤ 5 := by omega
          cases hh : hasB d u with
          | true =>
            have HH := hide hh
            have HN := hide (show rmI0 d k (u + 1) = rmI0 d k u by rw [rmI0, if_pos hh])
            clear hh hA2 hx2
            go_wp2_with fail
            refine (domainHas_any d u _ hdb.1 (by omega) hu5).mono ?_
            rintro e w' ⟨rfl, rfl⟩
            rw [HH.out]
            go_wp2
            go_roundw
            case rel => exact ⟨u + 1, by omega, by go_num, HX2.out, by rw [HN.out]; exact HA2.out⟩
            case measure => simp [intOf]; omega
          | false =>
            have HH := hide hh
            have HN := hide (show rmA0 ds k ++ rmI0 d k (u + 1) = (rmA0 ds k ++ rmI0 d k u) ++ [⟨k, u⟩] by rw [rmI0, hh, if_neg (by simp), List.append_assoc])
            clear hh hA2 hx2
            go_wp2_with fail
            refine (domainHas_any d u _ hdb.1 (by omega) hu5).mono ?_
            rintro e w' ⟨rfl, rfl⟩
            rw [HH.out]
            obtain ⟨L0, hL0⟩ : ∃ L0, L0 = rmA0 ds k ++ rmI0 d k u := ⟨_, rfl⟩
            have hLl : L0.length ≤ 100 := by rw [hL0, List.length_append]; omega
            rw [← hL0] at HA2 HN
            clear hL0
            go_wp2_with (at_builtin; go_must (refine wpList_appG (L := layRm) layRmOk _ rfl _ _ rfl w.heap.size _ _ L0 [⟨k, u⟩] rfl rfl (LayApp.ext HA2.out ((Ext.refl _).alloc _)) (⟨_, _, rfl, Nat.le_refl _, by rw [HBY.out]; simp, fun _ => ⟨_, 0, rfl, by simp, fun j w hj => by
              match j, hj with
              | 0, hj => injection hj with hj; subst hj; go_simp
              | 1, hj => injection hj with hj; subst hj; go_simp
              | j + 2, hj => simp [Lay.flat, layRm] at hj⟩⟩) (by intro n c h; cases h) (by simp; omega) (by rw [HBY.out]; simp; omega) (by simp; omega) ?_); intro v' w2 hA3 hb3)
            go_roundw
            case rel => exact ⟨u + 1, by omega, by go_num, (HX2.out.alloc _).below hb3, by rw [HN.out]; exact hA3⟩
            case measure => simp [intOf]; omega
        · obtain rfl : u = 6 := by omega
          have HN := hide (show rmA0 ds (k + 1) = rmA0 ds k ++ rmI0 d k 6 by rw [rmA0, HDD.out])
          clear hA2 hx2
          go_wp2
          go_roundw
          case rel => exact ⟨k + 1, by omega, by go_num, HX2.out, by rw [HN.out]; exact HA2.out⟩
          case measure => simp [intOf]; omega
    · obtain rfl : k = ds.length := by omega
      have hkI : ¬ ((ds.length : Int) < ds.length) := by omega
      obtain ⟨N, hN⟩ : ∃ N, N = (rmA0 ds ds.length).length := ⟨_, rfl⟩
      have HR := hide (show layRm.Res (rmA0 ds ds.length) w (.returned (.slice A1 N c1)) wr from ⟨_, rfl, by rw [hN]; exact HA.out, HX.out⟩)
      rw [← hN]
      clear hx hN
      go_wp2
      go_ret
      exact HR.out
set_option maxRecDepth 100000 in
set_option maxHeartbeats 8000000 in
theorem minimalReasons_any (c : Con) (v vs : Value) (n : Nat) (rs : List Rm) (r : Rm) (w : World) (hC : SCon w v c) (hS : layRm.S w vs rs) (hnil : ∀ n c, vs = .slice none n c → c = 0) (hcv : vCon c n = true) (hok : okRms rs n = true) (hr : okRm r n = true) (hn : 1 ≤ n) (h4 : n ≤ 4) :
    Calls Try.prog 41 #[v, .int .i64 n, vs, .agg #[.int .i64 r.x, .int .i64 r.v]] w (layRm.Res (shr (fun l => explB c n l r) rs.length 0 rs) w) := by
  have hC0 := hide hC
  obtain ⟨vv, va, vr, rfl, hV, hA, hR⟩ := hC
  obtain ⟨Av, cv, rfl, -, -⟩ := hV.form
  obtain ⟨Aa, ca, rfl, -, -⟩ := hA.form
  obtain ⟨Ar, cr, rfl, -, -⟩ := hR.form
  have hS0 := hide hS
  have HOK := hide hok
  have HCV := hide hcv
  have HR := hide hr
  have HNL := hide hnil
  have HBY := hide (show layRm.bytes = 16 from rfl)
  obtain ⟨As, c_s, rfl, -⟩ := LayS.form hS
  have hr24 := okRms_len hok
  obtain ⟨w0, hw0⟩ : ∃ w0, w0 = (w.alloc (.cells #[.int .i64 c.kk, .slice Av c.vars.length cv, .slice Aa c.args.length ca, .int .i64 c.bound, .slice Ar c.rows.length cr] 26)).alloc (.cells #[.int .i64 r.x, .int .i64 r.v] 29) := ⟨_, rfl⟩
  have hx0 : Ext w w0 := by rw [hw0]; exact ((Ext.refl w).alloc _).alloc _
  have hs0 : w0.heap.size = w.heap.size + 2 := by rw [hw0]; simp
  have K0 := hide (show w0.cell? ⟨w.heap.size, 0, none⟩ = some (.int .i64 c.kk) by rw [hw0]; go_simp)
  have K1 := hide (show w0.cell? ⟨w.heap.size, 1, none⟩ = some (.slice Av c.vars.length cv) by rw [hw0]; go_simp)
  have K2 := hide (show w0.cell? ⟨w.heap.size, 2, none⟩ = some (.slice Aa c.args.length ca) by rw [hw0]; go_simp)
  have K3 := hide (show w0.cell? ⟨w.heap.size, 3, none⟩ = some (.int .i64 c.bound) by rw [hw0]; go_simp)
  have K4 := hide (show w0.cell? ⟨w.heap.size, 4, none⟩ = some (.slice Ar c.rows.length cr) by rw [hw0]; go_simp)
  have J0 := hide (show w0.cell? ⟨w.heap.size + 1, 0, none⟩ = some (.int .i64 r.x) by rw [hw0]; go_simp)
  have J1 := hide (show w0.cell? ⟨w.heap.size + 1, 1, none⟩ = some (.int .i64 r.v) by rw [hw0]; go_simp)
  have ks : w.heap.size < w0.heap.size := by omega
  have js : w.heap.size + 1 < w0.heap.size := by omega
  have HX0 := hide hx0
  clear hV hA hR hS hok hcv hr hx0 hnil
  obtain ⟨pp, hpp⟩ : ∃ pp : List Rm → Bool, pp = fun l => explB c n l r := ⟨_, rfl⟩
  rw [← hpp]
  have HPP := hide hpp
  clear hpp
  go_enter Try.func41, Try.ntmps41
  go_wp2_with (at_builtin; go_must (rw [← hw0]; refine wpList_appG (L := layRm) layRmOk _ rfl _ _ rfl w0.heap.size _ _ [] rs rfl rfl (show layRm.App w0.heap.size (w0.alloc (.cells #[] 29)) (.slice (some ⟨w.heap.size + 1 + 1, 0, none⟩) 0 0) [] by rw [show w.heap.size + 1 + 1 = w0.heap.size by omega]; exact LayApp.empty w0 rfl) (LayS.ext hS0.out (HX0.out.alloc _)) HNL.out (by simp; omega) (by rw [HBY.out]; simp; omega) (by simp) ?_); intro v1 w1 hA1 hb1; have HX1 := hide (((Ext.refl w0).alloc _).below hb1); have HA1 := hide hA1; obtain ⟨A1, c1, rfl, -, -⟩ := LayApp.form hA1; clear hA1 hb1)
  clear hw0
  have HA1 := hide (show layRm.App w0.heap.size w1 _ rs from HA1.out)
  go_loopw [9, 10] (fun o i wr => ∃ (k : Nat) (l : List Rm), i = .int .i64 k ∧ k ≤ l.length ∧ Ext w0 wr ∧ layRm.App w0.heap.size wr o l ∧ Hid (okRms l n = true) ∧ Hid (shr pp (l.length - k) k l = shr pp rs.length 0 rs)) (fun o i _ => 2 * lenOf o - (intOf i).toNat)
  case atStart => exact ⟨0, rs, rfl, Nat.zero_le _, HX1.out, HA1.out, HOK, hide rfl⟩
  case round =>
    obtain ⟨k, l, rfl, hk, hx, hA, HG0, HSH⟩ := hrel
    have HX := hide hx
    have HA := hide hA
    have hsz := hx.size
    have hl24 := okRms_len HG0.out
    obtain ⟨A, c', rfl, hlc, hc63⟩ := LayApp.form hA
    by_cases hlt : k < l.length
    · have hkI : (k : Int) < l.length := by omega
      have hne : l.length ≠ 0 := by omega
      rcases hA.2 with ⟨-, h2⟩ | ⟨g0, cap, cur, h1, hg0, hh, -⟩
      · exact absurd h2 hne
      injection h1 with e1 e2 e3
      subst e1
      have hgl : g0 < wr.heap.size := (Array.getElem?_eq_some_iff.1 hh).1
      have HS := hide (LayApp.S hA (by rw [HBY.out]; omega))
      have HLE := hide (show (l.eraseIdx k).length + 1 = l.length by rw [List.length_eraseIdx, if_pos hlt]; omega)
      have HER := hide (show l.take k ++ l.drop (k + 1) = l.eraseIdx k by rw [List.eraseIdx_eq_take_drop_succ])
      have hSt := hide (LayS.take HS.out (i := k) (c' := c') (by omega) (by omega))
      obtain ⟨D, hD⟩ : ∃ D : Option Addr, D = (if c' = k + 1 then some ⟨g0, 0, none⟩ else some ⟨g0, (k + 1) * 2, none⟩) := ⟨_, rfl⟩
      have HD := hide hD
      have hSd := hide (LayS.drop layRmOk HS.out (A2 := D) (n2 := l.length - (k + 1)) (c2 := c' - (k + 1)) (i := k + 1) (by omega) rfl (by omega) (by intro hkl b off e; injection e with e; injection e with e1 e2; subst e1; subst e2; rw [hD, if_neg (by omega)]; simp; rfl))
      have HLt := hide (show (l.take k).length = k by rw [List.length_take, Nat.min_eq_left (by omega)])
      have HLd := hide (show (l.drop (k + 1)).length = l.length - (k + 1) by rw [List.length_drop])
      have hkc : k ≤ c' := by omega
      have hck : ¬ (c' < k) := by omega
      have hkw : IntKind.i64.wrap ((k : Int) + 1) = k + 1 := IntWalk.i64_in _ (by omega)
      have hk01 : (0 : Int) ≤ k + 1 := by omega
      have hk02 : (k : Int) + 1 ≤ l.length := by omega
      clear hA hx e2 e3 hh hD
      go_wp2_with fail
      refine wp_region_any (by kernel_rfl) ?_
      change wpAny _ _ _ _ _ _ _ (World.drew _)
      refine wpAny_take (i := 1) (v := ?_) rfl (by kernel_rfl) (by kernel_rfl) (by kernel_rfl) (by first | exact fun _ _ _ h => h | (rintro _ _ _ ⟨h, _⟩; cases h)) (Or.inl ⟨by rfl, ?hy1⟩) ?_
      case hy1 => intro w; go_simp; with_reducible rfl
      simp only [Act.put, List.getElem_toArray, List.getElem_cons_zero, List.getElem_cons_succ, List.setIfInBounds_toArray, List.set_cons_succ, List.set_cons_zero]
      refine wpAny_take (i := 2) (v := ?_) rfl (by kernel_rfl) (by kernel_rfl) (by kernel_rfl) (by first | exact fun _ _ _ h => h | (rintro _ _ _ ⟨h, _⟩; cases h)) (Or.inl ⟨by rfl, ?hy2⟩) ?_
      case hy2 => intro w; go_simp; with_reducible rfl
      simp only [Act.put, List.getElem_toArray, List.getElem_cons_zero, List.getElem_cons_succ, List.setIfInBounds_toArray, List.set_cons_succ, List.set_cons_zero]
      refine wpAny_take (i := 3) (v := ?_) rfl (by kernel_rfl) (by kernel_rfl) (by kernel_rfl) (by first | exact fun _ _ _ h => h | (rintro _ _ _ ⟨h, _⟩; cases h)) (Or.inl ⟨by rfl, ?hy3⟩) ?_
      case hy3 => intro w; go_simp; with_reducible rfl
      simp only [Act.put, List.getElem_toArray, List.getElem_cons_zero, List.getElem_cons_succ, List.setIfInBounds_toArray, List.set_cons_succ, List.set_cons_zero]
      refine wpAny_take (i := 5) (v := ?_) rfl (by kernel_rfl) (by kernel_rfl) (by kernel_rfl) (by first | exact fun _ _ _ h => h | (rintro _ _ _ ⟨h, _⟩; cases h)) (Or.inl ⟨by rfl, ?hy5⟩) ?_
      case hy5 => intro w; go_simp; with_reducible rfl
      simp only [Act.put, List.getElem_toArray, List.getElem_cons_zero, List.getElem_cons_succ, List.setIfInBounds_toArray, List.set_cons_succ, List.set_cons_zero]
      refine wpAny_take (i := 6) (v := ?_) rfl (by kernel_rfl) (by kernel_rfl) (by kernel_rfl) (by first | exact fun _ _ _ h => h | (rintro _ _ _ ⟨h, _⟩; cases h)) (Or.inl ⟨by rfl, ?hy6⟩) ?_
      case hy6 => intro w; go_simp; with_reducible rfl
      simp only [Act.put, List.getElem_toArray, List.getElem_cons_zero, List.getElem_cons_succ, List.setIfInBounds_toArray, List.set_cons_succ, List.set_cons_zero]
      refine wpAny_take (i := 7) (v := ?_) rfl (by kernel_rfl) (by kernel_rfl) (by kernel_rfl) (by first | exact fun _ _ _ h => h | (rintro _ _ _ ⟨h, _⟩; cases h)) (Or.inl ⟨by rfl, ?hy7⟩) ?_
      case hy7 => intro w; go_simp; with_reducible rfl
      simp only [Act.put, List.getElem_toArray, List.getElem_cons_zero, List.getElem_cons_succ, List.setIfInBounds_toArray, List.set_cons_succ, List.set_cons_zero]
      refine wpAny_take (i := 8) (v := .slice D (l.length - (k + 1)) (c' - (k + 1))) rfl (by kernel_rfl) (by kernel_rfl) (by kernel_rfl) (by first | exact fun _ _ _ h => h | (rintro _ _ _ ⟨h, _⟩; cases h)) (Or.inl ⟨by rfl, ?hy8⟩) ?_
      case hy8 => intro w; rw [HD.out]; go_simp
      simp only [Act.put, List.getElem_toArray, List.getElem_cons_zero, List.getElem_cons_succ, List.setIfInBounds_toArray, List.set_cons_succ, List.set_cons_zero]
      refine wpAny_sq [0,4,9,10] (by kernel_rfl) rfl ?_; simp only [nths, nth1]
      go_wp2_with (at_builtin; first | (refine wpList_appG (L := layRm) layRmOk _ rfl _ _ rfl wr.heap.size _ _ (l.take k) (l.drop (k + 1)) rfl rfl HA2.out (LayS.ext hSd.out HX2.out) (by intro n c2 h; injection h with h; rw [HD.out] at h; split at h <;> cases h) (by rw [HLt.out, HLd.out]; omega) (by rw [HBY.out, HLt.out, HLd.out]; omega) HX2.out.size ?_; intro v3 w3 hA3 hb3; rw [HER.out] at hA3; have HA3 := hide hA3; have HX3 := hide (HX2.out.below hb3); obtain ⟨A3, c3, hv3, -, -⟩ := LayApp.form hA3; obtain ⟨N, hN⟩ : ∃ N, N = (l.eraseIdx k).length := ⟨_, rfl⟩; rw [← hN] at hv3; subst hv3; have HN := hide hN; clear hA3 hb3 hN; have HXW := hide (HX.out.trans HX3.out); have k0 := (HXW.out.cells _ _ ks).trans K0.out; have k1 := (HXW.out.cells _ _ ks).trans K1.out; have k2 := (HXW.out.cells _ _ ks).trans K2.out; have k3 := (HXW.out.cells _ _ ks).trans K3.out; have k4 := (HXW.out.cells _ _ ks).trans K4.out; have j0 := (HXW.out.cells _ _ js).trans J0.out; have j1 := (HXW.out.cells _ _ js).trans J1.out) | (refine wpList_appG (L := layRm) layRmOk _ rfl _ _ rfl wr.heap.size _ _ [] (l.take k) rfl rfl (LayApp.empty _ (o := .cells #[] 29) rfl) (LayS.ext hSt.out ((Ext.refl _).drew.alloc _)) (by intro n c h; cases h) (by rw [HLt.out, List.length_nil]; omega) (by rw [HBY.out, HLt.out, List.length_nil]; omega) (by show _ ≤ (World.alloc _ _).heap.size; rw [World.size_alloc]; exact Nat.le_succ _) ?_; intro v2 w2 hA2 hb2; rw [List.nil_append] at hA2; have HA2 := hide hA2; have HX2 := hide (((Ext.refl wr).drew.alloc _).below hb2); obtain ⟨A2, c2, hv2, -, -⟩ := LayApp.form hA2; rw [HLt.out] at hv2; subst hv2; clear hA2 hb2))
      have HNl := hide (show N + 1 = l.length by have := HLE.out; have := HN.out; omega)
      have HGE := hide (okRms_erase k HG0.out)
      have HS3 := hide (LayApp.S HA3.out (by have := HNl.out; have := HN.out; rw [HBY.out]; omega))
      have HPE0 := hide (show explB c n (l.eraseIdx k) r = pp (l.eraseIdx k) by rw [HPP.out])
      refine (explainsS_any c _ _ n (l.eraseIdx k) r _ (hC0.out.ext (HX0.out.trans HXW.out)) (layRm_S HS3.out) HCV.out HGE.out HR.out hn h4).mono ?_
      rintro e w4 ⟨rfl, hx4⟩
      have HX4 := hide (HXW.out.trans hx4)
      have HX34 := hide (HX3.out.trans hx4)
      have HA34 := hide (LayApp.ext HA3.out hx4)
      rw [HPE0.out]
      clear hx4 k0 k1 k2 k3 k4 j0 j1
      cases hpe : pp (l.eraseIdx k) with
      | true =>
        have HPE := hide hpe
        clear hpe
        go_wp2
        go_roundw
        case rel =>
          refine ⟨k, l.eraseIdx k, rfl, by have := HN.out; have := HNl.out; omega, HX4.out, LayApp.mono HA34.out hsz, HGE, hide ?_⟩
          rw [← HSH.out, show l.length - k = ((l.eraseIdx k).length - k) + 1 by have := HN.out; have := HNl.out; omega, shr, if_pos HPE.out]
        case measure => have := HNl.out; simp [intOf, lenOf]; omega
      | false =>
        have HPE := hide hpe
        have HA4 := hide (LayApp.ext HA.out HX34.out)
        clear hpe
        go_wp2
        go_roundw
        case rel =>
          refine ⟨k + 1, l, by go_num, by omega, HX4.out, HA4.out, HG0, hide ?_⟩
          rw [← HSH.out, show l.length - k = (l.length - (k + 1)) + 1 by omega, shr, HPE.out, if_neg (by simp)]
        case measure => simp [intOf, lenOf]; omega
    · obtain rfl : k = l.length := by omega
      have hkI : ¬ ((l.length : Int) < l.length) := by omega
      have HE := hide (show shr pp rs.length 0 rs = l by rw [← HSH.out, Nat.sub_self, shr])
      have hwb : w.heap.size ≤ w0.heap.size := by omega
      clear hA hx
      go_wp2
      go_ret
      rw [HE.out]
      exact ⟨_, rfl, LayApp.mono HA.out hwb, HX0.out.trans HX.out⟩
end Go.Proofs.Ytmfbdaocnijnpaa
/- Explain: the reference's, whole. -/
namespace Go.Proofs.Ytmfbdaocnijnpaa
open Go.RowKit
attribute [local go_sem] evalOf
theorem xplB_no {c : Con} {ds : List Int} {r : Rm} (h : xplOk c ds r = false) : xplB c ds r = false := by rw [xplB, h]; rfl
theorem RmOut.no {c : Con} {ds : List Int} {r : Rm} {w w' : World} {e : Ending} (hB : xplB c ds r = false) (he : e = .returned (.tuple #[.slice none 0 0, .bool false])) (hx : Ext w w') : RmOut (xplL c ds r) (xplB c ds r) w e w' := by
  rw [xplL_no hB, hB]
  exact RmOut.nil_ he hx
theorem filter_take {α : Type} (p : α → Bool) (l : List α) {k : Nat} (hk : k < l.length) : (l.take (k + 1)).filter p = if p (l[k]) = true then (l.take k).filter p ++ [l[k]] else (l.take k).filter p := by
  rw [List.take_add_one, List.filter_append, List.getElem?_eq_getElem hk]
  cases h : p (l[k]) <;> simp [h]
set_option maxRecDepth 100000 in
set_option maxHeartbeats 8000000 in
theorem ExplainS_any (c : Con) (v vd : Value) (ds : List Int) (r : Rm) (w : World) (hC : SCon w v c) (hD : SInts w vd ds) :
    Calls Try.prog 15 #[v, vd, .agg #[.int .i64 r.x, .int .i64 r.v]] w (RmOut (xplL c ds r) (xplB c ds r) w) := by
  have hC0 := hide hC
  obtain ⟨vv, va, vr, rfl, hV, hA, hR⟩ := hC
  obtain ⟨Av, cv, rfl, -, -⟩ := hV.form
  obtain ⟨Aa, ca, rfl, -, -⟩ := hA.form
  obtain ⟨Ar, cr, rfl, -, -⟩ := hR.form
  have hD0 := hide hD
  obtain ⟨Ad, cd, rfl, -, hdl⟩ := hD.form
  have HBY := hide (show layRm.bytes = 16 from rfl)
  obtain ⟨w0, hw0⟩ : ∃ w0, w0 = (w.alloc (.cells #[.int .i64 c.kk, .slice Av c.vars.length cv, .slice Aa c.args.length ca, .int .i64 c.bound, .slice Ar c.rows.length cr] 26)).alloc (.cells #[.int .i64 r.x, .int .i64 r.v] 29) := ⟨_, rfl⟩
  have hx0 : Ext w w0 := by rw [hw0]; exact ((Ext.refl w).alloc _).alloc _
  have hs0 : w0.heap.size = w.heap.size + 2 := by rw [hw0]; simp
  have k0 : w0.cell? ⟨w.heap.size, 0, none⟩ = some (.int .i64 c.kk) := by rw [hw0]; go_simp
  have k1 : w0.cell? ⟨w.heap.size, 1, none⟩ = some (.slice Av c.vars.length cv) := by rw [hw0]; go_simp
  have k2 : w0.cell? ⟨w.heap.size, 2, none⟩ = some (.slice Aa c.args.length ca) := by rw [hw0]; go_simp
  have k3 : w0.cell? ⟨w.heap.size, 3, none⟩ = some (.int .i64 c.bound) := by rw [hw0]; go_simp
  have k4 : w0.cell? ⟨w.heap.size, 4, none⟩ = some (.slice Ar c.rows.length cr) := by rw [hw0]; go_simp
  have j0 : w0.cell? ⟨w.heap.size + 1, 0, none⟩ = some (.int .i64 r.x) := by rw [hw0]; go_simp
  have j1 : w0.cell? ⟨w.heap.size + 1, 1, none⟩ = some (.int .i64 r.v) := by rw [hw0]; go_simp
  have HK := hide (And.intro k0 (And.intro k1 (And.intro k2 (And.intro k3 k4))))
  have HJ := hide (And.intro j0 j1)
  have ks : w.heap.size < w0.heap.size := by omega
  have js : w.heap.size + 1 < w0.heap.size := by omega
  have HX0 := hide hx0
  have hV0 := hide (hV.ext hx0)
  have hA0 := hide (hA.ext hx0)
  have hR0 := hide (hR.ext hx0)
  clear hV hA hR hD hx0
  go_enter Try.func15, Try.ntmps15
  go_wp2_with fail
  rw [← hw0]
  clear hw0
  refine (validDomains_any _ ds _ (hD0.out.ext HX0.out)).mono ?_
  rintro e w' ⟨rfl, rfl⟩
  cases h1 : (inR ds.length 1 4 && allR ds 0 63) with
  | false =>
    have HV := hide (xplB_no (show xplOk c ds r = false by rw [xplOk, h1]; rfl))
    clear h1
    go_wp2
    go_ret2
    exact RmOut.no HV.out rfl HX0.out
  | true =>
    have H1 := hide h1
    have hlen : 1 ≤ ds.length ∧ ds.length ≤ 4 := by
      rw [Bool.and_eq_true] at h1
      have := h1.1
      simp [inR] at this
      omega
    have HDM := hide (show DomL ds by rw [Bool.and_eq_true] at h1; exact DomL.of h1.2)
    clear h1
    go_wp2_with fail
    refine (validConstraintS_any c _ _ _ ds.length _ hV0.out hA0.out hR0.out (by omega) (by omega)).mono ?_
    rintro e w1 ⟨rfl, hx1⟩
    have HX1 := hide hx1
    clear hx1 k0 k1 k2 k3 k4 j0 j1
    cases h2 : vCs c ds.length with
    | false =>
      have HV := hide (xplB_no (show xplOk c ds r = false by rw [xplOk, vCon_vCs, h2, Bool.and_false, Bool.false_and, Bool.and_false]))
      clear h2
      go_wp2
      go_ret2
      exact RmOut.no HV.out rfl (HX0.out.trans HX1.out)
    | true =>
      have H2 := hide (show vCon c ds.length = true by rw [vCon_vCs, h2, show inR ds.length 1 4 = true by simp [inR]; omega]; rfl)
      have j0 := (HX1.out.cells _ _ js).trans HJ.out.1
      have j1 := (HX1.out.cells _ _ js).trans HJ.out.2
      clear h2
      go_wp2_with fail
      obtain ⟨u, hu⟩ : ∃ u, u = w1.alloc (.cells #[.int .i64 r.x, .int .i64 r.v] 29) := ⟨_, rfl⟩
      have hxu : Ext w1 u := by rw [hu]; exact (Ext.refl w1).alloc _
      have u0 : u.cell? ⟨w1.heap.size, 0, none⟩ = some (.int .i64 r.x) := by rw [hu]; go_simp
      have u1 : u.cell? ⟨w1.heap.size, 1, none⟩ = some (.int .i64 r.v) := by rw [hu]; go_simp
      have us : w1.heap.size < u.heap.size := by rw [hu]; simp
      have HXU := hide (HX1.out.trans hxu)
      rw [← hu]
      clear hu hxu
      refine (validRemovals_any _ [r] ds.length _ (SRm.one us u0 u1) (by omega) (by omega)).mono ?_
      rintro e w' ⟨rfl, rfl⟩
      rw [okRms_one]
      clear u0 u1 j0 j1
      cases h3 : okRm r ds.length with
      | false =>
        have HV := hide (xplB_no (show xplOk c ds r = false by rw [xplOk, h3, Bool.and_false, Bool.and_false]))
        clear h3
        go_wp2
        go_ret2
        exact RmOut.no HV.out rfl (HX0.out.trans HXU.out)
      | true =>
        have H3 := hide h3
        have HOK := hide (show xplOk c ds r = true by rw [xplOk, H1.out, H2.out, h3]; rfl)
        clear h3
        go_wp2_with fail
        obtain ⟨z, hz⟩ : ∃ z, z = u.alloc (.cells #[] 29) := ⟨_, rfl⟩
        have hxz : Ext u z := by rw [hz]; exact (Ext.refl u).alloc _
        have hsz : z.heap.size = u.heap.size + 1 := by rw [hz]; simp
        have HE := hide (show layRm.App u.heap.size z (.slice (some ⟨u.heap.size, 0, none⟩) 0 0) [] by rw [hz]; exact LayApp.empty u rfl)
        have HXZ := hide (HXU.out.trans hxz)
        rw [← hz]
        clear hz hxz
        refine (removals_any _ ds _ (hD0.out.ext (HX0.out.trans HXZ.out)) HDM.out hlen.2).mono ?_
        rintro e w4 ⟨va, rfl, hA4, hx4⟩
        have hall := rmA0_len ds ds.length
        obtain ⟨al, hal⟩ : ∃ al, al = rmA0 ds ds.length := ⟨_, rfl⟩
        have HFI := hide (show al.filter (neR r) = rmA ds r ds.length by rw [hal, rmA_filter])
        rw [← hal] at hall hA4
        have HX4 := hide (HXZ.out.trans hx4)
        have h24 : al.length ≤ 24 := by omega
        obtain ⟨Aa4, ca4, rfl, -, -⟩ := LayApp.form hA4
        have HS4 := hide (LayApp.S hA4 (by rw [HBY.out]; omega))
        have HAL := hide (show ∀ g, (Value.slice Aa4 al.length ca4).ownBlock = some g → z.heap.size ≤ g ∧ g < w4.heap.size from fun g hg => World.ownsRow.lt hA4 g hg)
        have hz4 := hx4.size
        have hzx := HXZ.out.size
        obtain ⟨S, hS⟩ : ∃ S : Nat → Prop, S = fun k => k = u.heap.size ∨ w4.heap.size ≤ k := ⟨_, rfl⟩
        have HS := hide (show ∀ k, S k ↔ (k = u.heap.size ∨ w4.heap.size ≤ k) from fun k => by rw [hS])
        have HK0 := hide (show layRm.K S w4 (.slice (some ⟨u.heap.size, 0, none⟩) 0 0) [] from ⟨LayApp.mono (LayApp.ext HE.out hx4) (Nat.zero_le _), fun g hg => by injection hg with hg; exact (HS.out g).2 (.inl hg.symm)⟩)
        clear hal hx4 hA4 hS
        go_wp2
        go_loopw [8, 10] (fun o i wr => ∃ k : Nat, k ≤ al.length ∧ i = .int .i64 k ∧ Keep (fun j => ¬ S j) w4 wr ∧ layRm.K S wr o ((al.take k).filter (neR r))) (fun _ i _ => al.length - (intOf i).toNat)
        case atStart => exact ⟨0, Nat.zero_le _, rfl, Keep.refl _ _, HK0.out⟩
        case round =>
          obtain ⟨k, hk, rfl, hkp, hkk⟩ := hrel
          have HKP := hide hkp
          have HKK := hide hkk
          have hws := hkp.size
          have HXW := hide (show Ext w0 wr from Below.trans HX4.out (Below.mono (hkp.below (B := u.heap.size) (by omega) (fun k hk => by rw [HS.out k]; omega)) HXU.out.size))
          obtain ⟨o, ho, co, hv⟩ : ∃ o ho co, True := ⟨0, 0, 0, trivial⟩
          obtain ⟨Ao, co, hvo, -, -⟩ := LayK.form hkk
          obtain ⟨N, hN⟩ : ∃ N, N = ((al.take k).filter (neR r)).length := ⟨_, rfl⟩
          have hN24 : N ≤ 24 := by
            have h1 := List.length_filter_le (neR r) (al.take k)
            rw [List.length_take] at h1
            omega
          rw [← hN] at hvo
          subst hvo
          have HN := hide hN
          have j0 := (HXW.out.cells _ _ js).trans HJ.out.1
          have j1 := (HXW.out.cells _ _ js).trans HJ.out.2
          have jsW := Nat.lt_of_lt_of_le js HXW.out.size
          clear hkp hkk hN ho hv
          by_cases hlt : k < al.length
          · have hkI : (k : Int) < al.length := by omega
            obtain ⟨b, off, hAe, hb4, -⟩ := LayS.at_ HS4.out (by omega)
            subst hAe
            obtain ⟨hb1, hb2⟩ := HAL.out b rfl
            have HSW := hide (LayS.keep HS4.out HKP.out (by rw [HS.out b]; omega))
            obtain ⟨b', off', hb', hbw, f1, f2⟩ := (layRm_S HSW.out).at_ hlt
            injection hb' with hb'
            injection hb' with e1 e2
            subst e1; subst e2
            obtain ⟨x, hx⟩ : ∃ x : Rm, x = al[k] := ⟨_, rfl⟩
            have e1 : rmX al k = x.x := by rw [hx, rmX, rm0, getD_lt _ _ hlt]
            have e2 : rmV al k = x.v := by rw [hx, rmV, rm0, getD_lt _ _ hlt]
            rw [e1] at f1
            rw [e2] at f2
            have HFT := hide (filter_take (neR r) al hlt)
            rw [← hx] at HFT
            clear hx e1 e2
            go_wp2_with fail
            refine wp_region_ext (by kernel_rfl) (by kernel_rfl) ?_
            iterate 5 (apply quiet_val; (focus rfl); (focus (intro w' hw'; have hk' := hw'.cells; go_simp; all_goals exact rfl)); simp only [Act.put, List.setIfInBounds_toArray, List.set_cons_succ, List.set_cons_zero])
            refine quiet_val (.bool (neR r x)) rfl (fun w' hw' => ?_) ?_
            · go_simp
              unfold neR
              by_cases e1 : x.x = r.x <;> by_cases e2 : x.v = r.v <;> simp [e1, e2]
            simp only [Act.put, List.setIfInBounds_toArray, List.set_cons_succ, List.set_cons_zero]
            refine wpQuiet_nil ?_
            intro w5 hx5
            have HX5 := hide hx5
            have HKP5 := hide (HKP.out.ext hx5)
            have HKK5 := hide (LayK.ext HKK.out hx5)
            have f1 := (hx5.cells _ _ hbw).trans f1
            have f2 := (hx5.cells _ _ hbw).trans f2
            have hbw := Nat.lt_of_lt_of_le hbw hx5.size
            have h5s := hx5.size
            clear hx5 j0 j1
            cases hne : neR r x with
            | false =>
              have HNE := hide (show (al.take (k + 1)).filter (neR r) = (al.take k).filter (neR r) by rw [HFT.out, hne]; rfl)
              clear hne
              go_wp2
              go_roundw
              case rel => exact ⟨k + 1, by omega, by go_num, HKP5.out, by rw [HNE.out]; exact HKK5.out⟩
              case measure => simp [intOf]; omega
            | true =>
              have HNE := hide (show (al.take (k + 1)).filter (neR r) = (al.take k).filter (neR r) ++ [x] by rw [HFT.out, hne]; rfl)
              clear hne
              go_wp2_with (at_builtin; refine wpList_appK (L := layRm) layRmOk _ rfl _ _ rfl S _ _ ((al.take k).filter (neR r)) [x] rfl rfl (LayK.ext HKK5.out ((Ext.refl _).alloc _)) (⟨_, _, rfl, Nat.le_refl _, by rw [HBY.out]; simp, fun _ => ⟨_, 0, rfl, by simp, fun j w hj => by
                match j, hj with
                | 0, hj => injection hj with hj; subst hj; go_simp
                | 1, hj => injection hj with hj; subst hj; go_simp
                | j + 2, hj => simp [Lay.flat, layRm] at hj⟩⟩) (by intro n c h; cases h) (by rw [← HN.out]; simp; omega) (by rw [← HN.out, HBY.out]; simp; omega) (fun k hk => (HS.out k).2 (.inr (by rw [World.size_alloc] at hk; omega))) ?_; intro v' w6 hK6 hp6)
              go_roundw
              case rel => exact ⟨k + 1, by omega, by go_num, (HKP5.out.ext ((Ext.refl _).alloc _)).trans hp6, by rw [HNE.out]; exact hK6⟩
              case measure => simp [intOf]; omega
          · obtain rfl : k = al.length := by omega
            have hkI : ¬ ((al.length : Int) < al.length) := by omega
            have HKA := hide (show layRm.App 0 wr (.slice Ao N co) (rmA ds r ds.length) by have h1 := HKK.out.1; rw [List.take_length, HFI.out] at h1; exact h1)
            have HNA := hide (show N = (rmA ds r ds.length).length by rw [HN.out, List.take_length, HFI.out])
            have hle := rmA_len ds r ds.length
            have HSR := hide (LayApp.S HKA.out (by rw [HBY.out]; omega))
            have HRO := hide (rmA_ok ds r ds.length hlen.2)
            have HEB := hide (show xplB c ds r = explB c ds.length (rmA ds r ds.length) r by rw [xplB, HOK.out, Bool.true_and])
            have k0 := (HXW.out.cells _ _ ks).trans HK.out.1
            have k1 := (HXW.out.cells _ _ ks).trans HK.out.2.1
            have k2 := (HXW.out.cells _ _ ks).trans HK.out.2.2.1
            have k3 := (HXW.out.cells _ _ ks).trans HK.out.2.2.2.1
            have k4 := (HXW.out.cells _ _ ks).trans HK.out.2.2.2.2
            clear hle
            go_wp2_with fail
            refine (explainsS_any c _ _ ds.length (rmA ds r ds.length) r _ (hC0.out.ext (HX0.out.trans HXW.out)) (layRm_S HSR.out) H2.out HRO.out H3.out hlen.1 hlen.2).mono ?_
            rintro e w6 ⟨rfl, hx6⟩
            have HX6 := hide (HXW.out.trans hx6)
            have HSR6 := hide (LayS.ext HSR.out hx6)
            clear hx6 k0 k1 k2 k3 k4 j0 j1
            cases hq : explB c ds.length (rmA ds r ds.length) r with
            | false =>
              have HV := hide (show xplB c ds r = false by rw [HEB.out, hq])
              clear hq
              go_wp2
              go_ret2
              exact RmOut.no HV.out rfl (HX0.out.trans HX6.out)
            | true =>
              have HV := hide (show xplB c ds r = true by rw [HEB.out, hq])
              have k0 := (HX6.out.cells _ _ ks).trans HK.out.1
              have k1 := (HX6.out.cells _ _ ks).trans HK.out.2.1
              have k2 := (HX6.out.cells _ _ ks).trans HK.out.2.2.1
              have k3 := (HX6.out.cells _ _ ks).trans HK.out.2.2.2.1
              have k4 := (HX6.out.cells _ _ ks).trans HK.out.2.2.2.2
              have j0 := (HX6.out.cells _ _ js).trans HJ.out.1
              have j1 := (HX6.out.cells _ _ js).trans HJ.out.2
              clear hq
              go_wp2_with fail
              refine (minimalReasons_any c _ _ ds.length (rmA ds r ds.length) r _ (hC0.out.ext (HX0.out.trans HX6.out)) HSR6.out (LayApp.hnil HKA.out) H2.out HRO.out H3.out hlen.1 hlen.2).mono ?_
              rintro e w7 ⟨v7, rfl, hA7, hx7⟩
              have hl24 := xplL_len c ds r
              obtain ⟨q, hq⟩ : ∃ q, q = xplL c ds r := ⟨_, rfl⟩
              have hq2 := xplL_yes HV.out
              rw [← hq2, ← hq] at hA7
              rw [← hq] at hl24
              have HX7 := hide ((HX0.out.trans HX6.out).trans hx7)
              obtain ⟨A7, c7, rfl, -, -⟩ := LayApp.form hA7
              have HS7 := hide (layRm_S (LayApp.S hA7 (by rw [HBY.out]; omega)))
              have HRES := hide (show RmOut (xplL c ds r) (xplB c ds r) w (.returned (.tuple #[.slice A7 q.length c7, .bool true])) w7 by rw [HV.out, ← hq]; exact ⟨_, _, rfl, HS7.out, HX7.out⟩)
              clear hx7 hA7 hq hq2 k0 k1 k2 k3 k4 j0 j1
              go_wp2
              go_ret2
              exact HRES.out
end Go.Proofs.Ytmfbdaocnijnpaa
/- Explain: the program's, whole. -/
namespace Go.Proofs.Ytmfbdaocnijnpaa
open Go.RowKit
attribute [local go_sem] evalOf
theorem RmRes.no {c : Con} {ds : List Int} {r : Rm} {w w' : World} {e : Ending} (hB : xplB c ds r = false) (he : e = .returned (.tuple #[.slice none 0 0, .bool false])) (hx : Ext w w') : RmRes (xplL c ds r) (xplB c ds r) w e w' := by
  rw [xplL_no hB, hB]
  exact RmRes.nil_ he hx
set_option maxRecDepth 100000 in
set_option maxHeartbeats 4000000 in
/-- The closure: whether reasons are enough. -/
theorem enough_any (c : Con) (vc : Value) (vs : Value) (n : Nat) (l : List Rm) (r : Rm) (w : World) (bc bn br : Nat)
    {vv va vr : Value} (hvc : vc = .agg #[.int .i64 c.kk, vv, va, .int .i64 c.bound, vr]) (c0 : w.cell? ⟨bc, 0, none⟩ = some (.int .i64 c.kk)) (c1 : w.cell? ⟨bc, 1, none⟩ = some vv) (c2 : w.cell? ⟨bc, 2, none⟩ = some va) (c3 : w.cell? ⟨bc, 3, none⟩ = some (.int .i64 c.bound)) (c4 : w.cell? ⟨bc, 4, none⟩ = some vr)
    (n0 : w.cell? ⟨bn, 0, none⟩ = some (.int .i64 n)) (r0 : w.cell? ⟨br, 0, none⟩ = some (.int .i64 r.x)) (r1 : w.cell? ⟨br, 1, none⟩ = some (.int .i64 r.v))
    (hC : SCon w vc c) (hS : SRm w vs l) (hcv : vCon c n = true) (hok : okRms l n = true) (hr : okRm r n = true) (hn : 1 ≤ n) (h4 : n ≤ 4) :
    Calls Try.prog 37 #[vs, .pointer (some ⟨bc, 0, none⟩), .pointer (some ⟨bn, 0, none⟩), .pointer (some ⟨br, 0, none⟩)] w (Ret (.bool (explB c n l r)) w) := by
  subst hvc
  have hC0 := hide hC
  obtain ⟨vv', va', vr', he, hV, hA, hR⟩ := hC
  have he1 := congrArg Value.cells he
  simp [Value.cells] at he1
  obtain ⟨rfl, rfl, rfl⟩ := he1
  obtain ⟨Av, cv, rfl, -, -⟩ := hV.form
  obtain ⟨Aa, ca, rfl, -, -⟩ := hA.form
  obtain ⟨Ar, cr, rfl, -, -⟩ := hR.form
  have HS := hide hS
  obtain ⟨As, c_s, rfl, -, -⟩ := hS.form
  clear hV hA hR hS he
  go_enter Try.func37, Try.ntmps37
  go_wp2_with fail
  refine (explainsI_any c _ _ n l r _ hC0.out HS.out hcv hok hr hn h4).mono ?_
  rintro e w1 ⟨rfl, hx1⟩
  have HX1 := hide hx1
  clear hx1 c0 c1 c2 c3 c4 n0 r0 r1
  go_wp2
  go_ret
  exact Ret.mk rfl HX1.out
set_option maxRecDepth 100000 in
set_option maxHeartbeats 16000000 in
theorem ExplainI_any (c : Con) (v vd : Value) (ds : List Int) (r : Rm) (w : World) (hC : SCon w v c) (hD : SInts w vd ds) :
    Calls Try.prog 13 #[v, vd, .agg #[.int .i64 r.x, .int .i64 r.v]] w (RmRes (xplL c ds r) (xplB c ds r) w) := by
  have hC0 := hide hC
  obtain ⟨vv, va, vr, rfl, hV, hA, hR⟩ := hC
  obtain ⟨Av, cv, rfl, -, -⟩ := hV.form
  obtain ⟨Aa, ca, rfl, -, -⟩ := hA.form
  obtain ⟨Ar, cr, rfl, -, -⟩ := hR.form
  have hD0 := hide hD
  obtain ⟨Ad, cd, rfl, -, hdl⟩ := hD.form
  have HBY := hide (show layRm.bytes = 16 from rfl)
  obtain ⟨w0, hw0⟩ : ∃ w0, w0 = ((w.alloc (.cells #[.int .i64 c.kk, .slice Av c.vars.length cv, .slice Aa c.args.length ca, .int .i64 c.bound, .slice Ar c.rows.length cr] 26)).alloc (.cells #[.int .i64 r.x, .int .i64 r.v] 29)).alloc (.cells #[.int .i64 ds.length] 3) := ⟨_, rfl⟩
  have hx0 : Ext w w0 := by rw [hw0]; exact (((Ext.refl w).alloc _).alloc _).alloc _
  have hs0 : w0.heap.size = w.heap.size + 3 := by rw [hw0]; simp
  have k0 : w0.cell? ⟨w.heap.size, 0, none⟩ = some (.int .i64 c.kk) := by rw [hw0]; go_simp
  have k1 : w0.cell? ⟨w.heap.size, 1, none⟩ = some (.slice Av c.vars.length cv) := by rw [hw0]; go_simp
  have k2 : w0.cell? ⟨w.heap.size, 2, none⟩ = some (.slice Aa c.args.length ca) := by rw [hw0]; go_simp
  have k3 : w0.cell? ⟨w.heap.size, 3, none⟩ = some (.int .i64 c.bound) := by rw [hw0]; go_simp
  have k4 : w0.cell? ⟨w.heap.size, 4, none⟩ = some (.slice Ar c.rows.length cr) := by rw [hw0]; go_simp
  have j0 : w0.cell? ⟨w.heap.size + 1, 0, none⟩ = some (.int .i64 r.x) := by rw [hw0]; go_simp
  have j1 : w0.cell? ⟨w.heap.size + 1, 1, none⟩ = some (.int .i64 r.v) := by rw [hw0]; go_simp
  have q0 : w0.cell? ⟨w.heap.size + 1 + 1, 0, none⟩ = some (.int .i64 ds.length) := by rw [hw0]; go_simp
  have HK := hide (And.intro k0 (And.intro k1 (And.intro k2 (And.intro k3 k4))))
  have HJ := hide (And.intro j0 j1)
  have HQ := hide q0
  have ks : w.heap.size < w0.heap.size := by omega
  have js : w.heap.size + 1 < w0.heap.size := by omega
  have qs : w.heap.size + 1 + 1 < w0.heap.size := by omega
  have HX0 := hide hx0
  have hV0 := hide (hV.ext hx0)
  have hA0 := hide (hA.ext hx0)
  have hR0 := hide (hR.ext hx0)
  clear hV hA hR hD hx0
  go_enter Try.func13, Try.ntmps13
  go_wp2_with fail
  rw [← hw0]
  clear hw0
  refine (domainsOk_any _ ds _ (hD0.out.ext HX0.out)).mono ?_
  rintro e w1 ⟨rfl, hx1⟩
  have HX1 := hide hx1
  clear hx1 k0 k1 k2 k3 k4 j0 j1 q0
  cases h1 : (inR ds.length 1 4 && allR ds 0 63) with
  | false =>
    have HV := hide (xplB_no (show xplOk c ds r = false by rw [xplOk, h1]; rfl))
    clear h1
    go_wp2
    go_ret2
    exact RmRes.no HV.out rfl (HX0.out.trans HX1.out)
  | true =>
    have H1 := hide h1
    have hlen : 1 ≤ ds.length ∧ ds.length ≤ 4 := by
      rw [Bool.and_eq_true] at h1
      have := h1.1
      simp [inR] at this
      omega
    have HDM := hide (show DomL ds by rw [Bool.and_eq_true] at h1; exact DomL.of h1.2)
    have k0 := (HX1.out.cells _ _ ks).trans HK.out.1
    have k1 := (HX1.out.cells _ _ ks).trans HK.out.2.1
    have k2 := (HX1.out.cells _ _ ks).trans HK.out.2.2.1
    have k3 := (HX1.out.cells _ _ ks).trans HK.out.2.2.2.1
    have k4 := (HX1.out.cells _ _ ks).trans HK.out.2.2.2.2
    have q0 := (HX1.out.cells _ _ qs).trans HQ.out
    clear h1
    go_wp2_with fail
    refine (ValidConstraintI_any c _ _ _ ds.length _ (fits_all c) (hV0.out.ext HX1.out) (hA0.out.ext HX1.out) (hR0.out.ext HX1.out)).mono ?_
    rintro e w2 ⟨rfl, hx2⟩
    have HX2 := hide (HX1.out.trans hx2)
    clear hx2 k0 k1 k2 k3 k4 q0
    cases h2 : vCon c ds.length with
    | false =>
      have HV := hide (xplB_no (show xplOk c ds r = false by rw [xplOk, h2, Bool.false_and, Bool.and_false]))
      clear h2
      go_wp2
      go_ret2
      exact RmRes.no HV.out rfl (HX0.out.trans HX2.out)
    | true =>
      have H2 := hide h2
      have j0 := (HX2.out.cells _ _ js).trans HJ.out.1
      have j1 := (HX2.out.cells _ _ js).trans HJ.out.2
      have q0 := (HX2.out.cells _ _ qs).trans HQ.out
      clear h2
      go_wp2_with fail
      refine (rmValid_any r.x r.v ds.length _ (by omega) (by omega)).mono ?_
      rintro e w3 ⟨rfl, hx3⟩
      have HX3 := hide (HX2.out.trans hx3)
      clear hx3 j0 j1 q0
      cases h3 : okRm ⟨r.x, r.v⟩ ds.length with
      | false =>
        have HV := hide (xplB_no (show xplOk c ds r = false by rw [xplOk, show okRm r ds.length = false from h3, Bool.and_false, Bool.and_false]))
        clear h3
        go_wp2
        go_ret2
        exact RmRes.no HV.out rfl (HX0.out.trans HX3.out)
      | true =>
        have H3 := hide (show okRm r ds.length = true from h3)
        have HOK := hide (show xplOk c ds r = true by rw [xplOk, H1.out, H2.out, show okRm r ds.length = true from h3]; rfl)
        have HE0 := hide (LayApp.empty (L := layRm) w3 (o := .cells #[] 29) rfl)
        have hw3 := HX3.out.size
        clear h3
        go_wp2
        go_loopw [9, 35] (fun o i wr => ∃ k : Nat, k ≤ ds.length ∧ i = .int .i64 k ∧ Ext w3 wr ∧ layRm.App w3.heap.size wr o (rmA ds r k)) (fun _ i _ => ds.length - (intOf i).toNat)
        case atStart => exact ⟨0, Nat.zero_le _, rfl, (Ext.refl _).alloc _, HE0.out⟩
        case round =>
          obtain ⟨k, hk, rfl, hx, hAp⟩ := hrel
          have HX := hide hx
          have HA := hide hAp
          obtain ⟨A1, c1, hv1, -, -⟩ := LayApp.form hAp
          obtain ⟨N1, hN1⟩ : ∃ N1, N1 = (rmA ds r k).length := ⟨_, rfl⟩
          rw [← hN1] at hv1
          subst hv1
          have HN1 := hide hN1
          have hlen1 := rmA_len ds r k
          clear hAp hN1
          by_cases hlt : k < ds.length
          · have hkI : (k : Int) < ds.length := by omega
            obtain ⟨b, off, rfl, hbl, f1⟩ := (hD0.out.ext ((HX0.out.trans HX3.out).trans hx)).at_ hlt
            obtain ⟨d, hd⟩ : ∃ d, d = at0 ds k := ⟨_, rfl⟩
            have hdb := HDM.out k hlt
            rw [← hd] at hdb f1
            have HDD := hide hd
            clear hd hx
            obtain ⟨W0, rfl⟩ : ∃ W0, W0 = wr := ⟨wr, rfl⟩
            go_wp2
            go_loopw [9, 40] (fun o i wr => ∃ u : Nat, u ≤ 6 ∧ i = .int .i64 u ∧ Ext w3 wr ∧ layRm.App w3.heap.size wr o (rmA ds r k ++ rmI d k r u)) (fun _ i _ => 6 - (intOf i).toNat)
            case atStart => exact ⟨0, by omega, rfl, HX.out, by rw [rmI, List.append_nil]; exact HA.out⟩
            case round =>
              obtain ⟨u, hu, rfl, hx2, hA2⟩ := hrel
              have HXr := hide hx2
              have HA2 := hide hA2
              obtain ⟨A2, c2, hv, -, -⟩ := LayApp.form hA2
              have hlen2 := rmI_len d k r u
              obtain ⟨L0, hL0⟩ : ∃ L0, L0 = rmA ds r k ++ rmI d k r u := ⟨_, rfl⟩
              have hLl : L0.length ≤ 100 := by rw [hL0, List.length_append]; omega
              have HL0 := hide hL0
              rw [← hL0] at HA2 hv
              subst hv
              have hs := hx2.size
              have jsr := Nat.lt_of_lt_of_le js (Nat.le_trans hw3 hs)
              clear hA2 hx2 hL0
              by_cases hul : u < 6
              · have huI : (u : Int) < 6 := by omega
                have hu5 : u ≤ 5 := by omega
                go_wp2_with fail
                obtain ⟨z, hz⟩ : ∃ z, z = wr.alloc (.cells #[.int .i64 k, .int .i64 u] 29) := ⟨_, rfl⟩
                have hxz : Ext wr z := by rw [hz]; exact (Ext.refl wr).alloc _
                have z0 : z.cell? ⟨wr.heap.size, 0, none⟩ = some (.int .i64 k) := by rw [hz]; go_simp
                have z1 : z.cell? ⟨wr.heap.size, 1, none⟩ = some (.int .i64 u) := by rw [hz]; go_simp
                have zs : wr.heap.size < z.heap.size := by rw [hz]; simp
                have HXZ := hide (HXr.out.trans hxz)
                have HAZ := hide (LayApp.ext HA2.out hxz)
                have j0 := ((HX3.out.trans HXZ.out).cells _ _ js).trans HJ.out.1
                have j1 := ((HX3.out.trans HXZ.out).cells _ _ js).trans HJ.out.2
                rw [← hz]
                clear hz hxz
                refine (has_any d u _ hdb.1 (by omega) hu5).mono ?_
                rintro e w' ⟨rfl, rfl⟩
                cases hh : hasB d u with
                | true =>
                  have HN := hide (show rmI d k r (u + 1) = rmI d k r u by rw [rmI, hh]; rfl)
                  clear hh
                  go_wp2
                  go_roundw
                  case rel => exact ⟨u + 1, by omega, by go_num, HXZ.out, by rw [HN.out, ← HL0.out]; exact HAZ.out⟩
                  case measure => simp [intOf]; omega
                | false =>
                  by_cases hne : (k : Int) = r.x ∧ (u : Int) = r.v
                  · have HN := hide (show rmI d k r (u + 1) = rmI d k r u by rw [rmI, hh, if_neg (by simp [hne.1, hne.2])])
                    have he1 : ((k : Int) = r.x) = True := eq_true hne.1
                    have he2 : ((u : Int) = r.v) = True := eq_true hne.2
                    clear hh hne
                    go_wp2
                    go_roundw
                    case rel => exact ⟨u + 1, by omega, by go_num, HXZ.out, by rw [HN.out, ← HL0.out]; exact HAZ.out⟩
                    case measure => simp [intOf]; omega
                  · have HN := hide (show rmA ds r k ++ rmI d k r (u + 1) = L0 ++ [⟨k, u⟩] by
                      rw [rmI, hh, if_pos (by
                        by_cases e1 : (k : Int) = r.x
                        · have e2 : ¬ (u : Int) = r.v := fun e2 => hne ⟨e1, e2⟩
                          simp [e2]
                        · simp [e1]), ← List.append_assoc, ← HL0.out])
                    clear hh
                    by_cases e1 : (k : Int) = r.x
                    · have he1 : ((k : Int) = r.x) = True := eq_true e1
                      have he2 : ¬ ((u : Int) = r.v) := fun e2 => hne ⟨e1, e2⟩
                      clear hne e1
                      go_wp2_with (at_builtin; go_must (refine wpList_appG (L := layRm) layRmOk _ rfl _ _ rfl w3.heap.size _ _ L0 [⟨k, u⟩] rfl rfl (LayApp.ext HAZ.out ((Ext.refl _).alloc _)) (⟨_, _, rfl, Nat.le_refl _, by rw [HBY.out]; simp, fun _ => ⟨_, 0, rfl, by simp, fun j w hj => by
                        match j, hj with
                        | 0, hj => injection hj with hj; subst hj; go_simp
                        | 1, hj => injection hj with hj; subst hj; go_simp
                        | j + 2, hj => simp [Lay.flat, layRm] at hj⟩⟩) (by intro n c h; cases h) (by simp; omega) (by rw [HBY.out]; simp; omega) (by rw [World.size_alloc]; have := HXZ.out.size; omega) ?_); intro v' w5 hA5 hb5)
                      go_roundw
                      case rel => exact ⟨u + 1, by omega, by go_num, (HXZ.out.alloc _).below hb5, by rw [HN.out]; exact hA5⟩
                      case measure => simp [intOf]; omega
                    · clear hne
                      go_wp2_with (at_builtin; go_must (refine wpList_appG (L := layRm) layRmOk _ rfl _ _ rfl w3.heap.size _ _ L0 [⟨k, u⟩] rfl rfl (LayApp.ext HAZ.out ((Ext.refl _).alloc _)) (⟨_, _, rfl, Nat.le_refl _, by rw [HBY.out]; simp, fun _ => ⟨_, 0, rfl, by simp, fun j w hj => by
                        match j, hj with
                        | 0, hj => injection hj with hj; subst hj; go_simp
                        | 1, hj => injection hj with hj; subst hj; go_simp
                        | j + 2, hj => simp [Lay.flat, layRm] at hj⟩⟩) (by intro n c h; cases h) (by simp; omega) (by rw [HBY.out]; simp; omega) (by rw [World.size_alloc]; have := HXZ.out.size; omega) ?_); intro v' w5 hA5 hb5)
                      go_roundw
                      case rel => exact ⟨u + 1, by omega, by go_num, (HXZ.out.alloc _).below hb5, by rw [HN.out]; exact hA5⟩
                      case measure => simp [intOf]; omega
              · obtain rfl : u = 6 := by omega
                have HN := hide (show rmA ds r (k + 1) = L0 by rw [rmA, HL0.out, HDD.out])
                go_wp2
                go_roundw
                case rel => exact ⟨k + 1, by omega, by go_num, HXr.out, by rw [HN.out]; exact HA2.out⟩
                case measure => simp [intOf]; omega
          · obtain rfl : k = ds.length := by omega
            have hkI : ¬ ((ds.length : Int) < ds.length) := by omega
            have HSR := hide (LayApp.S HA.out (by rw [HBY.out]; omega))
            have HRO := hide (rmA_ok ds r ds.length hlen.2)
            have hl24 : (rmA ds r ds.length).length ≤ 24 := by omega
            have HEB := hide (show xplB c ds r = explB c ds.length (rmA ds r ds.length) r by rw [xplB, HOK.out, Bool.true_and])
            have HEN := hide (show ∀ (l : List Rm) (v : Value) (W : World), okRms l ds.length = true → l.length ≤ 24 → Ext wr W → layRm.S W v l → Calls Try.prog 37 (#[v] ++ #[.pointer (some ⟨w.heap.size, 0, none⟩), .pointer (some ⟨w.heap.size + 1 + 1, 0, none⟩), .pointer (some ⟨w.heap.size + 1, 0, none⟩)]) W (Ret (.bool (explB c ds.length l r)) W) from fun l v W hl _ hW hS => by
              have hXW := (HX3.out.trans HX.out).trans hW
              exact enough_any c _ v ds.length l r W _ _ _ rfl ((hXW.cells _ _ ks).trans HK.out.1) ((hXW.cells _ _ ks).trans HK.out.2.1) ((hXW.cells _ _ ks).trans HK.out.2.2.1) ((hXW.cells _ _ ks).trans HK.out.2.2.2.1) ((hXW.cells _ _ ks).trans HK.out.2.2.2.2)
                ((hXW.cells _ _ qs).trans HQ.out) ((hXW.cells _ _ js).trans HJ.out.1) ((hXW.cells _ _ js).trans HJ.out.2) (hC0.out.ext (HX0.out.trans hXW)) (layRm_S hS) H2.out hl H3.out hlen.1 hlen.2)
            have hcf := fun args W => callFunc_body Try.func37 (by kernel_rfl) (by kernel_rfl) args W
            clear hx
            go_wp2_with fail
            refine (HEN.out (rmA ds r ds.length) _ _ HRO.out hl24 (Ext.refl _) HSR.out).mono ?_
            rintro e w6 ⟨rfl, hx6⟩
            have HX6 := hide (((HX0.out.trans HX3.out).trans HX.out).trans hx6)
            have HSR6 := hide (LayS.ext HSR.out hx6)
            have HXr6 := hide hx6
            clear hx6
            cases hq : explB c ds.length (rmA ds r ds.length) r with
            | false =>
              have HV := hide (show xplB c ds r = false by rw [HEB.out, hq])
              clear hq
              go_wp2
              go_ret2
              exact RmRes.no HV.out rfl HX6.out
            | true =>
              have HV := hide (show xplB c ds r = true by rw [HEB.out, hq])
              clear hq
              go_wp2_with fail
              refine (shrunkR_any _ (rmA ds r ds.length) 37 _ (fun l => explB c ds.length l r) (fun l => okRms l ds.length = true) _ HSR6.out hl24 hcf (hide fun l i h => okRms_erase i h) HRO (hide fun l v W hl h24 hW hS => HEN.out l v W hl h24 (HXr6.out.trans hW) hS)).mono ?_
              rintro e w7 hres
              rw [← xplL_yes HV.out] at hres
              obtain ⟨q, hq⟩ : ∃ q, q = xplL c ds r := ⟨_, rfl⟩
              rw [← hq] at hres
              obtain ⟨A7, b7, m7, f7, rfl, hb7, ho7, hx7⟩ := hres
              have HRES := hide (show RmRes (xplL c ds r) (xplB c ds r) w (.returned (.tuple #[.slice A7 q.length q.length, .bool true])) w7 by rw [HV.out, ← hq]; exact ⟨_, b7, m7, f7, rfl, Nat.le_trans HX6.out.size hb7, ho7, HX6.out.trans hx7⟩)
              clear hx7 ho7 hq
              go_wp2
              go_ret2
              exact HRES.out
end Go.Proofs.Ytmfbdaocnijnpaa
