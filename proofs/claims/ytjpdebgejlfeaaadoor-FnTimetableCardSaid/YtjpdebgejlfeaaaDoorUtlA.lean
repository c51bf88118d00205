/- slices.Equal on ints. -/
import Derived.Test.YtjpdebgejlfeaaaDoorBase
namespace Go.Proofs.YtjpdebgejlfeaaaDoor
open Go.RowKit

set_option maxHeartbeats 2000000 in
theorem EqualI_any (v v' : Value) (xs ys : List Int) (w : World) (hS : SInts w v xs) (hS' : SInts w v' ys) : Calls Tryd.prog 44 #[v, v'] w (Ret (.bool (decide (xs = ys))) w) := by
  have hS0 := hide hS
  have hS0' := hide hS'
  obtain ⟨A, c, rfl, -, hln⟩ := hS.form
  obtain ⟨A', c', rfl, -, hln'⟩ := hS'.form
  clear hS hS'
  by_cases hl : xs.length = ys.length
  · have hl' : ((xs.length : Int) != (ys.length : Int)) = false := by simp [hl]
    have HL := hide hl
    clear hl
    go_enter Tryd.func44, Tryd.ntmps44
    go_wp2
    go_loopw [13] (fun i wr => ∃ k : Nat, k ≤ xs.length ∧ i = .int .i64 k ∧ Ext w wr ∧ ∀ j, j < k → at0 xs j = at0 ys j) (fun i _ => xs.length - (intOf i).toNat)
    case atStart => exact ⟨0, Nat.zero_le _, rfl, Ext.refl w, fun j hj => by omega⟩
    case round =>
      obtain ⟨k, hk, rfl, hxr, hq⟩ := hrel
      have HQ := hide hq
      clear hq
      by_cases hlt : k < xs.length
      · have hlt' : k < ys.length := by have := HL.out; omega
        have hkI : (k : Int) < xs.length := by omega
        have hkI' : (k : Int) < ys.length := by omega
        obtain ⟨b, off, rfl, hbl, f1⟩ := (hS0.out.ext hxr).at_ hlt
        obtain ⟨b', off', rfl, hbl', f1'⟩ := (hS0'.out.ext hxr).at_ hlt'
        go_wp2
        refine wp_region_ext (by kernel_rfl) (by kernel_rfl) ?_
        iterate 9 (apply quiet_val; (focus rfl); (focus (intro w' hw'; have hk' := hw'.cells; go_simp; all_goals exact rfl)); simp only [Act.put, List.setIfInBounds_toArray, List.set_cons_succ, List.set_cons_zero])
        refine wpQuiet_nil ?_
        intro w2 hx2
        have HX2 := hide (hxr.trans hx2)
        clear hx2 f1 f1'
        by_cases he : at0 xs k = at0 ys k
        · have he' : (at0 xs k != at0 ys k) = false := by simp [he]
          have HE := hide he
          clear he
          go_wp2
          go_roundw
          case rel => exact ⟨k + 1, by omega, by go_num, HX2.out, fun j hj => by
            by_cases e : j = k
            · subst e; exact HE.out
            · exact HQ.out j (by omega)⟩
          case measure => simp [intOf]; omega
        · have he' : (at0 xs k != at0 ys k) = true := by simpa using he
          have HE := hide he
          clear he
          go_wp2
          go_ret
          exact Ret.mk (ret_b (by symm; rw [decide_eq_false_iff_not]; intro e; exact HE.out (by rw [e]))) HX2.out
      · obtain rfl : k = xs.length := by omega
        go_wp2
        go_ret
        refine Ret.mk (ret_b ?_) hxr
        symm
        rw [decide_eq_true_iff]
        refine List.ext_getElem HL.out fun i h1 h2 => ?_
        have := HQ.out i h1
        unfold at0 at this
        rwa [getD_lt _ _ h1, getD_lt _ _ h2] at this
  · have hl' : ((xs.length : Int) != (ys.length : Int)) = true := by rw [bne_iff_ne]; omega
    have HL := hide hl
    clear hl
    go_enter Tryd.func44, Tryd.ntmps44
    go_wp2
    go_ret
    exact Ret.mk (ret_b (by symm; rw [decide_eq_false_iff_not]; intro e; exact HL.out (by rw [e]))) (Ext.refl w)
end Go.Proofs.YtjpdebgejlfeaaaDoor
/- The walks of slices.IndexFunc and slices.ContainsFunc, whatever function they are handed. -/
namespace Go.Proofs.YtjpdebgejlfeaaaDoor
open Go.RowKit

/-- The first index below n at which p holds; -1 if there is none. -/
def fidx (p : Nat → Bool) (n : Nat) : Int := match (List.range n).find? p with | some i => (i : Int) | none => -1
/-- Is there an index below n at which p holds? -/
def anyB (p : Nat → Bool) (n : Nat) : Bool := (List.range n).any p
theorem anyB_iff {p : Nat → Bool} {n : Nat} : anyB p n = true ↔ ∃ i, i < n ∧ p i = true := by simp [anyB]
theorem anyB_false {p : Nat → Bool} {n : Nat} : anyB p n = false ↔ ∀ i, i < n → p i = false := by simp [anyB]
theorem fidx_some {p : Nat → Bool} {n i : Nat} (hi : i < n) (h : p i = true) (hb : ∀ j, j < i → p j = false) : fidx p n = i := by
  have : (List.range n).find? p = some i := by
    rw [List.find?_range_eq_some]
    exact ⟨h, by simpa using hi, fun j hj => by simp [hb j hj]⟩
  rw [fidx, this]
theorem fidx_none {p : Nat → Bool} {n : Nat} (h : ∀ j, j < n → p j = false) : fidx p n = -1 := by
  have : (List.range n).find? p = none := by
    rw [List.find?_range_eq_none]
    exact fun j hj => by simp [h j hj]
  rw [fidx, this]
theorem fidx_any (p : Nat → Bool) (n : Nat) : decide (0 ≤ fidx p n) = anyB p n := by
  by_cases h : anyB p n = true
  · rw [h]
    unfold fidx
    cases hf : (List.range n).find? p with
    | some i => simp
    | none =>
      rw [List.find?_range_eq_none] at hf
      obtain ⟨i, hi, hp⟩ := anyB_iff.1 h
      have := hf i hi
      simp [hp] at this
  · have h' : anyB p n = false := Bool.eq_false_iff.2 h
    rw [h', fidx_none (anyB_false.1 h')]
    rfl
theorem fidx_le {p : Nat → Bool} {n : Nat} : -1 ≤ fidx p n ∧ fidx p n < n + 1 := by
  unfold fidx
  split
  · rename_i i h
    have := List.mem_of_find?_eq_some h
    simp at this
    omega
  · omega

set_option maxHeartbeats 1000000 in
theorem IndexFuncI_any (v : Value) (xs : List Int) (g : Nat) (caps : Array Value) (p : Nat → Bool) (w : World) (hS : SInts w v xs)
    (hg : ∀ args W, (callFunc g args).run Tryd.prog W = .ok (.enter g args) W) (hp : Hid (∀ i, i < xs.length → ∀ W, Ext w W → Calls Tryd.prog g (#[.int .i64 (at0 xs i)] ++ caps) W (Ret (.bool (p i)) W))) :
    Calls Tryd.prog 89 #[v, .func (.func g) #[] caps] w (Ret (.int .i64 (fidx p xs.length)) w) := by
  obtain ⟨A, cp, rfl, hl, hc, hb, hcell⟩ := hS
  have hlen : xs.length ≤ 9223372036854775807 := by omega
  have Hc := hide hcell; clear hcell
  have Hb := hide hb; clear hb
  go_enter Tryd.func89, Tryd.ntmps89
  go_wp2
  go_loopw [8] (fun i wr => ∃ k : Nat, k ≤ xs.length ∧ i = .int .i64 k ∧ (∀ j, j < k → p j = false) ∧ Ext w wr) (fun i _ => xs.length - (intOf i).toNat)
  case atStart => exact ⟨0, Nat.zero_le _, rfl, fun j hj => absurd hj (by omega), Ext.refl w⟩
  case round =>
    obtain ⟨k, hk, rfl, hv, hx⟩ := hrel
    have Hv := hide hv; clear hv
    by_cases hlt : k < xs.length
    · obtain ⟨b, off, rfl, hbl, hcs⟩ := Hc.out (by omega)
      have f1 := (hx.cell (p := ⟨b, off + k, none⟩) hbl).trans (hcs k hlt)
      clear hcs
      by_cases hpk : p k = true
      · go_wp2_with fail
        refine (hp.out k hlt _ hx).mono ?_
        rintro e w2 ⟨rfl, hx2⟩
        go_wp2
        go_ret
        exact Ret.mk (ret_i (fidx_some hlt hpk Hv.out).symm) (hx.trans hx2)
      · have hpk' : p k = false := Bool.eq_false_iff.2 hpk
        clear hpk
        go_wp2_with fail
        refine (hp.out k hlt _ hx).mono ?_
        rintro e w2 ⟨rfl, hx2⟩
        go_wp2
        go_roundw
        case rel => exact ⟨k + 1, by omega, by go_num, upto_succ Hv.out hpk', hx.trans hx2⟩
        case measure => simp [intOf]; omega
    · have hkl : k = xs.length := by omega
      subst hkl
      go_wp2
      go_ret
      exact Ret.mk (ret_i (fidx_none Hv.out).symm) hx
theorem ContainsFuncI_any (v : Value) (xs : List Int) (g : Nat) (caps : Array Value) (p : Nat → Bool) (w : World) (hS : SInts w v xs)
    (hg : ∀ args W, (callFunc g args).run Tryd.prog W = .ok (.enter g args) W) (hp : Hid (∀ i, i < xs.length → ∀ W, Ext w W → Calls Tryd.prog g (#[.int .i64 (at0 xs i)] ++ caps) W (Ret (.bool (p i)) W))) :
    Calls Tryd.prog 82 #[v, .func (.func g) #[] caps] w (Ret (.bool (anyB p xs.length)) w) := by
  go_enter Tryd.func82, Tryd.ntmps82
  go_wp2_with fail
  refine (IndexFuncI_any v xs g caps p w hS hg hp).mono ?_
  rintro e w2 ⟨rfl, hx2⟩
  go_wp2
  go_ret
  exact Ret.mk (ret_b (fidx_any p _)) hx2

set_option maxHeartbeats 1000000 in
theorem IndexFuncT_any (v : Value) (ts : List Tk) (g : Nat) (caps : Array Value) (p : Nat → Bool) (w : World) (hS : STasks w v ts)
    (hg : ∀ args W, (callFunc g args).run Tryd.prog W = .ok (.enter g args) W) (hp : Hid (∀ i, i < ts.length → ∀ W, Ext w W → Calls Tryd.prog g (#[.agg #[.int .i64 (tkS ts i), .int .i64 (tkD ts i), .int .i64 (tkM ts i)]] ++ caps) W (Ret (.bool (p i)) W))) :
    Calls Tryd.prog 76 #[v, .func (.func g) #[] caps] w (Ret (.int .i64 (fidx p ts.length)) w) := by
  obtain ⟨A, cp, rfl, hl, hc, hb, hcell⟩ := hS
  have hlen : ts.length ≤ 9223372036854775807 := by omega
  have Hc := hide hcell; clear hcell
  have Hb := hide hb; clear hb
  go_enter Tryd.func76, Tryd.ntmps76
  go_wp2
  go_loopw [8] (fun i wr => ∃ k : Nat, k ≤ ts.length ∧ i = .int .i64 k ∧ (∀ j, j < k → p j = false) ∧ Ext w wr) (fun i _ => ts.length - (intOf i).toNat)
  case atStart => exact ⟨0, Nat.zero_le _, rfl, fun j hj => absurd hj (by omega), Ext.refl w⟩
  case round =>
    obtain ⟨k, hk, rfl, hv, hx⟩ := hrel
    have Hv := hide hv; clear hv
    by_cases hlt : k < ts.length
    · obtain ⟨b, off, rfl, hbl, hcs⟩ := Hc.out (by omega)
      obtain ⟨g1, g2, g3⟩ := hcs k hlt
      have f1 := (hx.cell (p := ⟨b, off + k * 3, none⟩) hbl).trans g1
      have f2 := (hx.cell (p := ⟨b, off + k * 3 + 1, none⟩) hbl).trans g2
      have f3 := (hx.cell (p := ⟨b, off + k * 3 + 2, none⟩) hbl).trans g3
      clear hcs g1 g2 g3
      by_cases hpk : p k = true
      · go_wp2_with fail
        refine (hp.out k hlt _ hx).mono ?_
        rintro e w2 ⟨rfl, hx2⟩
        go_wp2
        go_ret
        exact Ret.mk (ret_i (fidx_some hlt hpk Hv.out).symm) (hx.trans hx2)
      · have hpk' : p k = false := Bool.eq_false_iff.2 hpk
        clear hpk
        go_wp2_with fail
        refine (hp.out k hlt _ hx).mono ?_
        rintro e w2 ⟨rfl, hx2⟩
        go_wp2
        go_roundw
        case rel => exact ⟨k + 1, by omega, by go_num, upto_succ Hv.out hpk', hx.trans hx2⟩
        case measure => simp [intOf]; omega
    · have hkl : k = ts.length := by omega
      subst hkl
      go_wp2
      go_ret
      exact Ret.mk (ret_i (fidx_none Hv.out).symm) hx
theorem ContainsFuncT_any (v : Value) (ts : List Tk) (g : Nat) (caps : Array Value) (p : Nat → Bool) (w : World) (hS : STasks w v ts)
    (hg : ∀ args W, (callFunc g args).run Tryd.prog W = .ok (.enter g args) W) (hp : Hid (∀ i, i < ts.length → ∀ W, Ext w W → Calls Tryd.prog g (#[.agg #[.int .i64 (tkS ts i), .int .i64 (tkD ts i), .int .i64 (tkM ts i)]] ++ caps) W (Ret (.bool (p i)) W))) :
    Calls Tryd.prog 62 #[v, .func (.func g) #[] caps] w (Ret (.bool (anyB p ts.length)) w) := by
  go_enter Tryd.func62, Tryd.ntmps62
  go_wp2_with fail
  refine (IndexFuncT_any v ts g caps p w hS hg hp).mono ?_
  rintro e w2 ⟨rfl, hx2⟩
  go_wp2
  go_ret
  exact Ret.mk (ret_b (fidx_any p _)) hx2
end Go.Proofs.YtjpdebgejlfeaaaDoor
/- The walks of the range checks of numbers. -/
namespace Go.Proofs.YtjpdebgejlfeaaaDoor
open Go.RowKit

theorem inRange_any (n l h : Int) (w : World) :
    Calls Tryd.prog 37 #[.int .i64 n, .int .i64 l, .int .i64 h] w fun e w' => e = .returned (.bool (inR n l h)) ∧ w = w' := by
  by_cases h1 : l ≤ n
  · go_enter Tryd.func37, Tryd.ntmps37
    go_wp2
    go_ret
    exact ⟨by simp [inR, h1], rfl⟩
  · have h2 : decide (l ≤ n) = false := by simpa using h1
    go_enter Tryd.func37, Tryd.ntmps37
    go_wp2
    go_ret
    exact ⟨by simp [inR, h2], rfl⟩

theorem within_any (n l h : Int) (w : World) :
    Calls Tryd.prog 61 #[.int .i64 n, .int .i64 l, .int .i64 h] w fun e w' => e = .returned (.bool (inR n l h)) ∧ w = w' := by
  by_cases h1 : l ≤ n
  · go_enter Tryd.func61, Tryd.ntmps61
    go_wp2
    go_ret
    exact ⟨by simp [inR, h1], rfl⟩
  · have h2 : decide (l ≤ n) = false := by simpa using h1
    go_enter Tryd.func61, Tryd.ntmps61
    go_wp2
    go_ret
    exact ⟨by simp [inR, h2], rfl⟩

theorem validDomain_any (d : Int) (w : World) :
    Calls Tryd.prog 36 #[.int .i64 d] w fun e w' => e = .returned (.bool (vDom d)) ∧ w = w' := by
  go_enter Tryd.func36, Tryd.ntmps36
  go_wp2_with (go_at_call 37; refine (inRange_any _ _ _ _).mono ?_; rintro e w' ⟨rfl, rfl⟩)
  go_ret
  exact ⟨rfl, rfl⟩

theorem ValidDomain_any (d : Int) (w : World) :
    Calls Tryd.prog 77 #[.int .i64 d] w fun e w' => e = .returned (.bool (vDom d)) ∧ w = w' := by
  go_enter Tryd.func77, Tryd.ntmps77
  go_wp2_with (go_at_call 61; refine (within_any _ _ _ _).mono ?_; rintro e w' ⟨rfl, rfl⟩)
  go_ret
  exact ⟨rfl, rfl⟩

end Go.Proofs.YtjpdebgejlfeaaaDoor
/- The walks of the checks of numbers in a range, in the reference and in the program. -/
namespace Go.Proofs.YtjpdebgejlfeaaaDoor
open Go.RowKit

theorem allIn1_any (n l h : Int) (b1 b2 : Nat) (w : World) (h1 : w.cell? ⟨b1, 0, none⟩ = some (.int .i64 l)) (h2 : w.cell? ⟨b2, 0, none⟩ = some (.int .i64 h)) :
    Calls Tryd.prog 83 #[.int .i64 n, .pointer (some ⟨b1, 0, none⟩), .pointer (some ⟨b2, 0, none⟩)] w fun e w' => e = .returned (.bool (!inR n l h)) ∧ w = w' := by
  go_enter Tryd.func83, Tryd.ntmps83
  go_wp2_with (go_at_call 61; refine (within_any _ _ _ _).mono ?_; rintro e w' ⟨rfl, rfl⟩)
  go_ret
  exact ⟨rfl, rfl⟩

theorem allR_any (xs : List Int) (l h : Int) : allR xs l h = !anyB (fun i => !inR (at0 xs i) l h) xs.length := by
  by_cases hh : ∀ j, j < xs.length → inR (at0 xs j) l h = true
  · rw [allR_of hh, anyB_false.2 (fun i hi => by simp [hh i hi])]; rfl
  · have h' : ∃ j, j < xs.length ∧ inR (at0 xs j) l h = false := by simpa using hh
    obtain ⟨j, hj, hf⟩ := h'
    rw [anyB_iff.2 ⟨j, hj, by simp [hf]⟩, allR_no hj hf]; rfl

set_option maxHeartbeats 1000000 in
theorem allIn_any (v : Value) (xs : List Int) (l h : Int) (w : World) (hS : SInts w v xs) :
    Calls Tryd.prog 71 #[v, .int .i64 l, .int .i64 h] w (Ret (.bool (allR xs l h)) w) := by
  have hS0 := hide hS
  obtain ⟨A, cp, rfl, hl, hlen⟩ := hS.form
  clear hS
  go_enter Tryd.func71, Tryd.ntmps71
  go_wp2_with fail
  refine (ContainsFuncI_any _ xs 83 _ (fun i => !inR (at0 xs i) l h) _ (hS0.out.ext (((Ext.refl w).alloc _).alloc _)) (callFunc_body Tryd.func83 (by decide) rfl) (hide fun i hi W hW => ?_)).mono ?_
  · refine (allIn1_any _ l h _ _ W ((hW.cells _ _ (by simp; omega)).trans ?_) ((hW.cells _ _ (by simp)).trans ?_)).mono ?_
    · go_simp
    · go_simp
    · rintro e w' ⟨rfl, rfl⟩
      exact Ret.same rfl
  rintro e w' ⟨rfl, hx⟩
  go_wp2
  go_ret
  exact Ret.mk (ret_b (by rw [allR_any])) ((((Ext.refl w).alloc _).alloc _).trans hx)

end Go.Proofs.YtjpdebgejlfeaaaDoor
