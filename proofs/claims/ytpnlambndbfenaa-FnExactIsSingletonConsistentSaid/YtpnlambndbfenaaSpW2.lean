/- The reference's walk over all tuples of a constraint: a node, and the whole. -/
import Derived.Test.YtpnlambndbfenaaSpW
namespace Go.Proofs.Ytpnlambndbfenaa
open Go.RowKit

/-- The tuples that begin with p and one of the values of d below k. -/
def partW (p : List Int) (d : Int) (rs : List Int) (k : Nat) : List (List Int) := (domK d k).flatMap fun u => (tups rs).map fun t => p ++ u :: t
theorem partW_zero (p : List Int) (d : Int) (rs : List Int) : partW p d rs 0 = [] := rfl
theorem partW_yes (p : List Int) {d : Int} (rs : List Int) {k : Nat} (h : hasB d k = true) : partW p d rs (k + 1) = partW p d rs k ++ (tups rs).map fun t => (p ++ [(k : Int)]) ++ t := by
  unfold partW
  rw [domK, if_pos h, List.flatMap_append]
  simp
theorem partW_no (p : List Int) {d : Int} (rs : List Int) {k : Nat} (h : hasB d k = false) : partW p d rs (k + 1) = partW p d rs k := by
  unfold partW
  rw [domK, h, if_neg (by simp)]
theorem partW_all (p : List Int) (d : Int) (rs : List Int) : partW p d rs 6 = (tups (d :: rs)).map fun t => p ++ t := by
  unfold partW
  simp [tups, domL, List.map_flatMap, List.map_map, Function.comp_def]
theorem leftT_app (q : List Int → Bool) (l : List Int) (A B : List (List Int)) : leftT q l (A ++ B) = leftT q (leftT q l A) B := by
  unfold leftT; rw [List.foldl_append]
theorem at0_mid (a : List Int) (d : Int) (b : List Int) {i : Nat} (h : i = a.length) : at0 (a ++ d :: b) i = d := by
  subst h
  unfold at0
  rw [getD_lt _ _ (by simp)]
  simp
set_option maxRecDepth 100000 in
set_option maxHeartbeats 8000000 in
theorem walk_node (c : Con) (ds : List Int) (vv va vr vd : Value) (gx gs bs : Nat) (w0 : World) (hcv : vCon c ds.length = true) (hV : SInts w0 vv c.vars) (hD : SInts w0 vd ds) (hd : DomL ds) (hgx : w0.heap.size ≤ gx) (hgs : w0.heap.size ≤ gs) (d : Int) (rs : List Int)
    (IH : ∀ (done p l : List Int) (W : World), wordL c.vars ds = done ++ rs → p.length = done.length → Ext w0 W → WkSt c vv va vr vd gx gs bs p l W →
      Calls Try.prog 123 #[.pointer (some ⟨bs, 0, none⟩), .int .i64 p.length] W (WkEnd c vv va vr vd gx gs bs p (leftT (satB c) l ((tups rs).map fun t => p ++ t)) W))
    (done p l : List Int) (W : World) (hds : wordL c.vars ds = done ++ d :: rs) (hp : p.length = done.length) (hx0 : Ext w0 W) (hst : WkSt c vv va vr vd gx gs bs p l W) :
    Calls Try.prog 123 #[.pointer (some ⟨bs, 0, none⟩), .int .i64 p.length] W (WkEnd c vv va vr vd gx gs bs p (leftT (satB c) l ((tups (d :: rs)).map fun t => p ++ t)) W) := by
  have hvl := vCon_len hcv
  have hok := vCon_var hcv
  have hlt : p.length < c.vars.length := by
    have h := wordL_len c.vars ds
    rw [hds] at h; simp at h; omega
  have hat : at0 ds (at0 c.vars p.length).toNat = d := by
    rw [← wordL_at ds hlt, hds]; exact at0_mid _ _ _ hp
  obtain ⟨hu0, hul⟩ := hok.rg p.length hlt
  obtain ⟨u, hu⟩ : ∃ u : Nat, at0 c.vars p.length = u := ⟨(at0 c.vars p.length).toNat, by omega⟩
  rw [hu, Int.toNat_natCast] at hat hul
  have hdb := hd u hul
  rw [hat] at hdb
  obtain ⟨Av, cv, rfl, -, hlv⟩ := hV.form
  obtain ⟨Ad, cd, rfl, -, hld⟩ := hD.form
  obtain ⟨bv, ov, rfl, hbv, f1⟩ := hV.at_ hlt
  obtain ⟨bd, od, rfl, hbd, f2⟩ := hD.at_ hul
  rw [hu] at f1
  rw [hat] at f2
  have HST := hide hst
  have HIH := hide IH
  have HD := hide hds
  have HP := hide hp
  have HX0 := hide hx0
  have F1 := hide f1
  have F2 := hide f2
  have hn4 : c.vars.length ≤ 4 := by omega
  have hpI : (p.length : Int) < c.vars.length := by omega
  have hulI : (u : Int) < ds.length := by omega
  have hne : ((p.length : Int) == (c.vars.length : Int)) = false := by rw [beq_eq_false_iff_ne]; omega
  have c6 := hst.c6
  have hltb := hst.lt
  clear hst hds hp hx0 hat IH hu f1 f2 hvl hok hV hD hd hcv hu0
  go_enter Try.func123, Try.ntmps123
  go_wp2_with fail
  go_loopw [5] (fun i wr => ∃ k : Nat, k ≤ 6 ∧ i = .int .i64 k ∧ WkSt c (.slice (some ⟨bv, ov, none⟩) c.vars.length cv) va vr (.slice (some ⟨bd, od, none⟩) ds.length cd) gx gs bs p (leftT (satB c) l (partW p d rs k)) wr ∧ Keep (fun k => k ≠ gx ∧ k ≠ gs) W wr) (fun i _ => 6 - (intOf i).toNat)
  case atStart => exact ⟨0, by omega, rfl, by rw [partW_zero]; exact HST.out, Keep.refl _ _⟩
  case round =>
    obtain ⟨k, hk, rfl, hS, hK⟩ := hrel
    have HS := hide hS
    have HK := hide hK
    have hE0 : Ext w0 wr := Below.trans HX0.out (hK.below HX0.out.size (fun k hk => by omega))
    have HE0 := hide hE0
    have c1 := hS.c1
    have c5 := hS.c5
    have c6 := hS.c6
    have hlr := hS.lt
    have g1 := (hE0.cells _ _ hbv).trans F1.out
    have g2 := (hE0.cells _ _ hbd).trans F2.out
    have hbvr := Nat.lt_of_lt_of_le hbv hE0.size
    have hbdr := Nat.lt_of_lt_of_le hbd hE0.size
    obtain ⟨fr, hrow, -⟩ := hS.rx
    have hgl := hrow.lt
    have x0 := hrow.cell hlt
    have xz := hrow.frozen p.length
    clear hS hK hE0 hrow
    by_cases hk6 : k < 6
    · have hkI : (k : Int) < 6 := by omega
      have hkI5 : (k : Int) ≤ 5 := by omega
      have hk5 : k ≤ 5 := by omega
      cases hh : hasB d k with
      | false =>
        have HH := hide hh
        have HN := hide (partW_no p rs hh)
        clear hh
        go_wp2_with fail
        refine wp_region_ext (by kernel_rfl) (by kernel_rfl) ?_
        iterate 15 (apply quiet_val; (focus rfl); (focus (intro w' hw'; have hk' := hw'.cells; go_simp; all_goals exact rfl)); simp only [Act.put, List.setIfInBounds_toArray, List.set_cons_succ, List.set_cons_zero])
        apply quiet_call; (focus rfl); (focus (intro w' hw'; go_simp; all_goals (first | exact rfl | (apply And.intro <;> exact rfl))))
        · exact fun w' hw' => same_quiet (domainHas_any d k w' hdb.1 (by omega) hk5) hw'
        (simp only [Act.put, List.setIfInBounds_toArray, List.set_cons_succ, List.set_cons_zero])
        refine wpQuiet_nil ?_
        intro w2 hx2
        have HX2 := hide hx2
        clear hx2
        rw [HH.out]
        go_wp2_with fail
        go_roundw
        case rel => exact ⟨k + 1, by omega, by go_num, by rw [HN.out]; exact HS.out.ext HX2.out, HK.out.ext HX2.out⟩
        case measure => simp [intOf]; omega
      | true =>
        have HH := hide hh
        have HN := hide (partW_yes p rs hh)
        clear hh
        go_wp2_with fail
        refine wp_region_ext (by kernel_rfl) (by kernel_rfl) ?_
        iterate 15 (apply quiet_val; (focus rfl); (focus (intro w' hw'; have hk' := hw'.cells; go_simp; all_goals exact rfl)); simp only [Act.put, List.setIfInBounds_toArray, List.set_cons_succ, List.set_cons_zero])
        apply quiet_call; (focus rfl); (focus (intro w' hw'; go_simp; all_goals (first | exact rfl | (apply And.intro <;> exact rfl))))
        · exact fun w' hw' => same_quiet (domainHas_any d k w' hdb.1 (by omega) hk5) hw'
        (simp only [Act.put, List.setIfInBounds_toArray, List.set_cons_succ, List.set_cons_zero])
        refine wpQuiet_nil ?_
        intro w2 hx2
        have HX2 := hide hx2
        have c6 := (hx2.cells _ _ hlr).trans c6
        have hlr := Nat.lt_of_lt_of_le hlr hx2.size
        have x0 := (hx2.cells _ _ hgl).trans x0
        have xz := (hx2.frz _ _ hgl).trans xz
        have hgl := Nat.lt_of_lt_of_le hgl hx2.size
        clear hx2 c1 c5 g1 g2
        rw [HH.out]
        go_wp2_with fail
        have hK4 := hide (show Keep (fun k => k ≠ gx ∧ k ≠ gs) wr (w2.setCell ⟨gx, p.length, none⟩ (.int .i64 k)) from (HX2.out.keep _).set (fun _ hh => hh.1 rfl) _)
        have hE4 : Ext w0 (w2.setCell ⟨gx, p.length, none⟩ (.int .i64 k)) := Below.trans HX0.out ((HK.out.trans hK4.out).below HX0.out.size (fun k hk => by omega))
        have hpl : ((p.length : Int) + 1) = ((p ++ [(k : Int)]).length : Int) := by simp
        have hih := HIH.out (done ++ [d]) (p ++ [(k : Int)]) (leftT (satB c) l (partW p d rs k)) _ (by rw [HD.out]; simp) (by simp [HP.out]) hE4 ((HS.out.ext HX2.out).push (k : Int) (by omega) hkI5 hlt)
        rw [← hpl] at hih
        refine hih.mono ?_
        clear hih hE4 hpl
        rintro e W5 ⟨rfl, hS5, hK5⟩
        have HS5 := hide hS5
        have HK5 := hide hK5
        clear hS5 hK5 x0 xz
        go_wp2_with fail
        go_roundw
        case rel => exact ⟨k + 1, by omega, by go_num, by rw [HN.out, leftT_app]; exact HS5.out.pop, HK.out.trans (hK4.out.trans HK5.out)⟩
        case measure => simp [intOf]; omega
    · obtain rfl : k = 6 := by omega
      have hE := hide (show WkEnd c (.slice (some ⟨bv, ov, none⟩) c.vars.length cv) va vr (.slice (some ⟨bd, od, none⟩) ds.length cd) gx gs bs p (leftT (satB c) l ((tups (d :: rs)).map fun t => p ++ t)) W (.returned (.tuple #[])) wr by rw [← partW_all]; exact ⟨rfl, HS.out, HK.out⟩)
      go_wp2_with fail
      go_end0
      exact hE.out
theorem walk_any (c : Con) (ds : List Int) (vv va vr vd : Value) (gx gs bs : Nat) (w0 : World) (hcv : vCon c ds.length = true) (hV : SInts w0 vv c.vars) (hA : SInts w0 va c.args) (hR : SRows w0 vr c.rows) (hD : SInts w0 vd ds) (hd : DomL ds) (hgx : w0.heap.size ≤ gx) (hgs : w0.heap.size ≤ gs) :
    ∀ (rs done p l : List Int) (W : World), wordL c.vars ds = done ++ rs → p.length = done.length → Ext w0 W → WkSt c vv va vr vd gx gs bs p l W →
      Calls Try.prog 123 #[.pointer (some ⟨bs, 0, none⟩), .int .i64 p.length] W (WkEnd c vv va vr vd gx gs bs p (leftT (satB c) l ((tups rs).map fun t => p ++ t)) W)
  | [], done, p, l, W, hds, hp, hx, hst => by
    have hl : p.length = c.vars.length := by
      have h := wordL_len c.vars ds
      rw [hds] at h; simp at h; omega
    have := walk_leaf c ds.length vv va vr vd gx gs bs p l W hcv (hV.ext hx) (hA.ext hx) (hR.ext hx) hl hst
    simpa [tups] using this
  | d :: rs, done, p, l, W, hds, hp, hx, hst =>
    walk_node c ds vv va vr vd gx gs bs w0 hcv hV hD hd hgx hgs d rs (fun done p l W => walk_any c ds vv va vr vd gx gs bs w0 hcv hV hA hR hD hd hgx hgs rs done p l W) done p l W hds hp hx hst
end Go.Proofs.Ytpnlambndbfenaa
