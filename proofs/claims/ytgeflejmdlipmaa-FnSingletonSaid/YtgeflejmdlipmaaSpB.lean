/- The reference's walk over all tuples of a constraint. -/
import Derived.Test.YtgeflejmdlipmaaSpA
import Derived.Test.YtgeflejmdlipmaaFilt
import Derived.Test.YtgeflejmdlipmaaRelZ
import Derived.Test.YtgeflejmdlipmaaCpA
namespace Go.Proofs.Ytgeflejmdlipmaa
open Go.RowKit

/-- The enumerator: its struct at block bs, the tuple at block gx, the support at block gs. -/
structure WkSt (c : Con) (vv va vr vd : Value) (gx gs bs : Nat) (p l : List Int) (W : World) : Prop where
  c0 : W.cell? ⟨bs, 0, none⟩ = some (.int .i64 c.kk)
  c1 : W.cell? ⟨bs, 1, none⟩ = some vv
  c2 : W.cell? ⟨bs, 2, none⟩ = some va
  c3 : W.cell? ⟨bs, 3, none⟩ = some (.int .i64 c.bound)
  c4 : W.cell? ⟨bs, 4, none⟩ = some vr
  c5 : W.cell? ⟨bs, 5, none⟩ = some vd
  c6 : W.cell? ⟨bs, 6, none⟩ = some (.slice (some ⟨gx, 0, none⟩) c.vars.length c.vars.length)
  c7 : W.cell? ⟨bs, 7, none⟩ = some (.slice (some ⟨gs, 0, none⟩) c.vars.length c.vars.length)
  rx : ∃ f, W.rowIs gx 3 c.vars.length f ∧ ∀ j, j < p.length → f j = vI (at0 p j)
  rs : W.rowIs gs 3 c.vars.length (fun j => .int .i64 (at0 l j))
  val : ValL p
  dom : DomL l
  ll : l.length = c.vars.length
  pl : p.length ≤ c.vars.length
  n1 : gx ≠ gs
  n2 : gx ≠ bs
  n3 : gs ≠ bs
  lt : bs < W.heap.size
section
variable {c : Con} {vv va vr vd : Value} {gx gs bs : Nat} {p l : List Int} {W W' : World}
theorem WkSt.ext (h : WkSt c vv va vr vd gx gs bs p l W) (hx : Ext W W') : WkSt c vv va vr vd gx gs bs p l W' := by
  obtain ⟨f, h3, h4⟩ := h.rx
  have q := fun k => hx.cells bs k h.lt
  exact ⟨(q _).trans h.c0, (q _).trans h.c1, (q _).trans h.c2, (q _).trans h.c3, (q _).trans h.c4, (q _).trans h.c5, (q _).trans h.c6, (q _).trans h.c7, ⟨f, hx.row h3, h4⟩, hx.row h.rs, h.val, h.dom, h.ll, h.pl, h.n1, h.n2, h.n3, Nat.lt_of_lt_of_le h.lt hx.size⟩
theorem WkSt.ints (h : WkSt c vv va vr vd gx gs bs p l W) (hp : p.length = c.vars.length) (h4 : c.vars.length ≤ 4) : SInts W (.slice (some ⟨gx, 0, none⟩) c.vars.length c.vars.length) p := by
  obtain ⟨f, hr, hf⟩ := h.rx
  exact ⟨_, _, by rw [hp], by omega, by omega, fun i hi => by have := h.val i hi; unfold I64; omega, fun _ => ⟨gx, 0, rfl, hr.lt, fun i hi => by rw [Nat.zero_add, hr.cell (by omega), hf i hi]; rfl⟩⟩
/-- A value more. -/
theorem WkSt.push (h : WkSt c vv va vr vd gx gs bs p l W) (x : Int) (h0 : 0 ≤ x) (h5 : x ≤ 5) (hlt : p.length < c.vars.length) : WkSt c vv va vr vd gx gs bs (p ++ [x]) l (W.setCell ⟨gx, p.length, none⟩ (.int .i64 x)) := by
  obtain ⟨f, h3, h4⟩ := h.rx
  have hn := h.n2
  have co : ∀ k, (W.setCell ⟨gx, p.length, none⟩ (.int .i64 x)).cell? ⟨bs, k, none⟩ = W.cell? ⟨bs, k, none⟩ := fun k => cell_other _ (by simp; omega)
  refine ⟨(co _).trans h.c0, (co _).trans h.c1, (co _).trans h.c2, (co _).trans h.c3, (co _).trans h.c4, (co _).trans h.c5, (co _).trans h.c6, (co _).trans h.c7, ⟨_, h3.set p.length (.int .i64 x), fun i hi => ?_⟩, h.rs.setOther (fun e => h.n1 e.symm) _, fun i hi => ?_, h.dom, h.ll, by simp; omega, h.n1, hn, h.n3, by simpa [World.setCell] using h.lt⟩
  · show (if i = p.length then _ else _) = _
    rw [List.length_append, List.length_singleton] at hi
    by_cases hip : i = p.length
    · subst hip; rw [if_pos rfl, at0_snoc]; rfl
    · rw [if_neg hip, at0_app _ _ (by omega)]; exact h4 i (by omega)
  · rw [List.length_append, List.length_singleton] at hi
    by_cases hip : i = p.length
    · subst hip; rw [at0_snoc]; exact ⟨h0, h5⟩
    · rw [at0_app _ _ (by omega)]; exact h.val i (by omega)
theorem WkSt.pop {x : Int} (h : WkSt c vv va vr vd gx gs bs (p ++ [x]) l W) : WkSt c vv va vr vd gx gs bs p l W := by
  obtain ⟨f, h3, h4⟩ := h.rx
  have hl := h.pl
  rw [List.length_append] at hl
  refine ⟨h.c0, h.c1, h.c2, h.c3, h.c4, h.c5, h.c6, h.c7, ⟨f, h3, fun i hi => ?_⟩, h.rs, fun i hi => ?_, h.dom, h.ll, by omega, h.n1, h.n2, h.n3, h.lt⟩
  · have := h4 i (by simp; omega); rwa [at0_app _ _ hi] at this
  · have := h.val i (by simp; omega); rwa [at0_app _ _ hi] at this
/-- New support. -/
theorem WkSt.supp {m : List Int} (h : WkSt c vv va vr vd gx gs bs p l W) (hk : Keep (fun k => k ≠ gs) W W') (hr : W'.rowIs gs 3 c.vars.length (fun j => .int .i64 (at0 m j))) (hd : DomL m) (hm : m.length = c.vars.length) : WkSt c vv va vr vd gx gs bs p m W' := by
  obtain ⟨f, h3, h4⟩ := h.rx
  have co : ∀ k, W'.cell? ⟨bs, k, none⟩ = W.cell? ⟨bs, k, none⟩ := fun k => hk.cell (p := ⟨bs, k, none⟩) h.lt (fun e => h.n3 e.symm)
  exact ⟨(co _).trans h.c0, (co _).trans h.c1, (co _).trans h.c2, (co _).trans h.c3, (co _).trans h.c4, (co _).trans h.c5, (co _).trans h.c6, (co _).trans h.c7, ⟨f, hk.row h.n1 h3, h4⟩, hr, h.val, hd, hm, h.pl, h.n1, h.n2, h.n3, Nat.lt_of_lt_of_le h.lt hk.size⟩
end
theorem pow_bdW {v : Nat} (hv : v < 6) : (1 : Int) ≤ 2 ^ v ∧ (2 : Int) ^ v ≤ 32 := by
  have := fin_dv (p := fun _ v => decide ((1 : Int) ≤ 2 ^ v) && decide ((2 : Int) ^ v ≤ 32)) (by decide +kernel) (Int.le_refl 0) (by omega) hv
  simpa using this
/-- How the walk ends. -/
def WkEnd (c : Con) (vv va vr vd : Value) (gx gs bs : Nat) (p l : List Int) (W : World) (e : Ending) (W' : World) : Prop :=
  e = .returned (.tuple #[]) ∧ WkSt c vv va vr vd gx gs bs p l W' ∧ Keep (fun k => k ≠ gx ∧ k ≠ gs) W W'
theorem orK_all {l x : List Int} {j : Nat} (hj : j < l.length) : orK l x l.length j = at0 (orT l x) j := by
  rw [orK, if_pos hj, orT_at x hj]
theorem orV_has' {d : Int} {v : Nat} (h : hasB d v = true) : orV d v = d := by unfold orV; rw [Int.toNat_natCast, if_pos h]
theorem orV_no {d : Int} {v : Nat} (h : hasB d v = false) : orV d v = d + 2 ^ v := by unfold orV; rw [Int.toNat_natCast, h, if_neg (by simp)]
set_option maxRecDepth 100000 in
set_option maxHeartbeats 8000000 in
theorem walk_leaf (c : Con) (n : Int) (vv va vr vd : Value) (gx gs bs : Nat) (p l : List Int) (W : World) (hcv : vCon c n = true) (hV : SInts W vv c.vars) (hA : SInts W va c.args) (hR : SRows W vr c.rows) (hp : p.length = c.vars.length) (hst : WkSt c vv va vr vd gx gs bs p l W) :
    Calls Try.prog 101 #[.pointer (some ⟨bs, 0, none⟩), .int .i64 p.length] W (WkEnd c vv va vr vd gx gs bs p (leftT (satB c) l [p]) W) := by
  have hvl := vCon_len hcv
  have h4 : c.vars.length ≤ 4 := by omega
  have HCV := hide hcv
  have HST := hide hst
  have HV := hide hV
  have HA := hide hA
  have HR := hide hR
  obtain ⟨Av, cv, rfl, -, hlv⟩ := hV.form
  obtain ⟨Aa, ca, rfl, -, hla⟩ := hA.form
  obtain ⟨Ar, cr, rfl, -, hlr⟩ := hR.form
  have HS := hide (hst.ints hp h4)
  have HP := hide hp
  have c0 := hst.c0
  have c1 := hst.c1
  have c2 := hst.c2
  have c3 := hst.c3
  have c4 := hst.c4
  have c6 := hst.c6
  have c7 := hst.c7
  have hlt := hst.lt
  have hpp : ((p.length : Int) == (c.vars.length : Int)) = true := by rw [beq_iff_eq]; omega
  clear hst hcv hV hA hR hp hvl
  go_enter Try.func101, Try.ntmps101
  rw [HP.out]
  go_wp2_with fail
  refine wp_region_ext (by kernel_rfl) (by kernel_rfl) ?_
  iterate 8 (apply quiet_val; (focus rfl); (focus (intro w' hw'; have hk' := hw'.cells; go_simp; all_goals exact rfl)); simp only [Act.put, List.setIfInBounds_toArray, List.set_cons_succ, List.set_cons_zero])
  apply quiet_call; (focus rfl); (focus (intro w' hw'; go_simp; all_goals (first | exact rfl | (apply And.intro <;> exact rfl))))
  · exact fun w' hw' => Ret.quiet (satisfiesS_any _ _ c p n _ ⟨_, _, _, rfl, HV.out.ext hw', HA.out.ext hw', HR.out.ext hw'⟩ (HS.out.ext hw') HCV.out HST.out.val HP.out) hw'
  (simp only [Act.put, List.setIfInBounds_toArray, List.set_cons_succ, List.set_cons_zero])
  refine wpQuiet_nil ?_
  intro w1 hx1
  have HST1 := hide (HST.out.ext hx1)
  have HX1 := hide hx1
  have c6 := (hx1.cells _ _ hlt).trans c6
  have c7 := (hx1.cells _ _ hlt).trans c7
  have hlt := Nat.lt_of_lt_of_le hlt hx1.size
  clear hx1 c0 c1 c2 c3 c4
  cases hsat : satB c p with
  | false =>
    have HE := hide (show WkEnd c (.slice Av c.vars.length cv) (.slice Aa c.args.length ca) (.slice Ar c.rows.length cr) vd gx gs bs p (leftT (satB c) l [p]) W (.returned (.tuple #[])) w1 by
      refine ⟨rfl, ?_, HX1.out.keep _⟩
      have : leftT (satB c) l [p] = l := by unfold leftT; rw [List.foldl_cons, hsat]; rfl
      rw [this]; exact HST1.out)
    clear hsat
    go_wp2_with fail
    go_end0
    exact HE.out
  | true =>
    have HT := hide (show leftT (satB c) l [p] = orT l p by unfold leftT; rw [List.foldl_cons, hsat]; rfl)
    clear hsat
    obtain ⟨n0, hn0⟩ : ∃ n0, n0 = c.vars.length := ⟨_, rfl⟩
    have HN := hide hn0
    rw [← hn0] at c6 c7 h4 ⊢
    clear hn0
    go_wp2_with fail
    go_loopw [4] (fun i wr => ∃ k : Nat, i = .int .i64 k ∧ k ≤ n0 ∧ wr.rowIs gs 3 n0 (fun j => .int .i64 (orK l p k j)) ∧ Keep (fun j => j ≠ gs) w1 wr) (fun i _ => n0 - (intOf i).toNat)
    case atStart => exact ⟨0, rfl, by omega, by rw [HN.out]; exact HST1.out.rs.congr (fun j _ => by rw [orK_zero]), Keep.refl _ _⟩
    case round =>
      obtain ⟨k, rfl, hk, hrow, hkp⟩ := hrel
      have HROW := hide hrow
      have HKP := hide hkp
      have n1 := HST1.out.n1
      have n3 := HST1.out.n3
      have d6 := (hkp.cell (p := ⟨bs, 6, none⟩) hlt (fun e => n3 e.symm)).trans c6
      have d7 := (hkp.cell (p := ⟨bs, 7, none⟩) hlt (fun e => n3 e.symm)).trans c7
      have hltr := Nat.lt_of_lt_of_le hlt hkp.size
      by_cases hln : k < n0
      · have hkI : (k : Int) < n0 := by omega
        obtain ⟨fx, hrx, hfx⟩ := HST1.out.rx
        have hrx2 := hkp.row n1 hrx
        have fx0 := hrx2.cell (i := k) (by have := HN.out; omega)
        have hgx := hrx2.lt
        rw [hfx k (by have := HN.out; have := HP.out; omega)] at fx0
        obtain ⟨v, hv6, hve⟩ := HST1.out.val.at_ (i := k) (by have := HN.out; have := HP.out; omega)
        rw [hve] at fx0
        replace fx0 : wr.cell? ⟨gx, k, none⟩ = some (.int .i64 v) := fx0
        have fc := hrow.cell hln
        have hok : orK l p k k = at0 l k := by unfold orK; rw [if_neg (by omega)]
        rw [hok] at fc
        have hgs := hrow.lt
        have fz := hrow.frozen k
        have hdb := HST1.out.dom k (by rw [HST1.out.ll, ← HN.out]; exact hln)
        obtain ⟨d, hd⟩ : ∃ d, d = at0 l k := ⟨_, rfl⟩
        rw [← hd] at fc hdb
        have HDE := hide hd
        have HVE := hide hve
        have hpw := pow_bdW hv6
        have hv5 : v ≤ 5 := by omega
        clear hrow hkp hrx hrx2 hfx hve hd hok
        cases hh : hasB d v with
        | true =>
          have HO := hide (orV_has' hh)
          have HH := hide hh
          clear hh
          go_wp2
          refine wp_region_ext (by kernel_rfl) (by kernel_rfl) ?_
          iterate 14 (apply quiet_val; (focus rfl); (focus (intro w' hw'; have hk' := hw'.cells; go_simp; all_goals exact rfl)); simp only [Act.put, List.setIfInBounds_toArray, List.set_cons_succ, List.set_cons_zero])
          apply quiet_call; (focus rfl); (focus (intro w' hw'; go_simp; all_goals (first | exact rfl | (apply And.intro <;> exact rfl))))
          · exact fun w' hw' => same_quiet (domainHas_any d v w' hdb.1 (by omega) hv5) hw'
          (simp only [Act.put, List.setIfInBounds_toArray, List.set_cons_succ, List.set_cons_zero])
          (apply quiet_val; (focus rfl); (focus (intro w' hw'; have hk' := hw'.cells; go_simp; all_goals exact rfl)); simp only [Act.put, List.setIfInBounds_toArray, List.set_cons_succ, List.set_cons_zero])
          refine wpQuiet_nil ?_
          intro w2 hx2
          have HX2 := hide hx2
          clear hx2
          rw [HH.out]
          go_wp2
          go_roundw
          case rel =>
            refine ⟨k + 1, by go_num, by omega, (HX2.out.row HROW.out).congr (fun j hj => ?_), HKP.out.trans (HX2.out.keep _)⟩
            rw [← orK_step, HVE.out, ← HDE.out, HO.out]
            by_cases e : j = k
            · subst e; rw [if_pos rfl, orK, if_neg (by omega), ← HDE.out]
            · rw [if_neg e]
          case measure => simp [intOf]; omega
        | false =>
          have HO := hide (orV_no hh)
          have hob := orV_bd hdb.1 hdb.2 hv6
          rw [HO.out] at hob
          have kp : IntKind.i64.wrap (2 ^ v) = 2 ^ v := IntWalk.i64_in _ (by omega)
          have kq : IntKind.i64.wrap (d + 2 ^ v) = d + 2 ^ v := IntWalk.i64_in _ (by omega)
          have HH := hide hh
          clear hh
          go_wp2
          refine wp_region_ext (by kernel_rfl) (by kernel_rfl) ?_
          iterate 14 (apply quiet_val; (focus rfl); (focus (intro w' hw'; have hk' := hw'.cells; go_simp; all_goals exact rfl)); simp only [Act.put, List.setIfInBounds_toArray, List.set_cons_succ, List.set_cons_zero])
          apply quiet_call; (focus rfl); (focus (intro w' hw'; go_simp; all_goals (first | exact rfl | (apply And.intro <;> exact rfl))))
          · exact fun w' hw' => same_quiet (domainHas_any d v w' hdb.1 (by omega) hv5) hw'
          (simp only [Act.put, List.setIfInBounds_toArray, List.set_cons_succ, List.set_cons_zero])
          (apply quiet_val; (focus rfl); (focus (intro w' hw'; have hk' := hw'.cells; go_simp; all_goals exact rfl)); simp only [Act.put, List.setIfInBounds_toArray, List.set_cons_succ, List.set_cons_zero])
          refine wpQuiet_nil ?_
          intro w2 hx2
          have HX2 := hide hx2
          have d6 := (hx2.cells _ _ hltr).trans d6
          have d7 := (hx2.cells _ _ hltr).trans d7
          have hltr := Nat.lt_of_lt_of_le hltr hx2.size
          have fx0 := (hx2.cells _ _ hgx).trans fx0
          have hgx := Nat.lt_of_lt_of_le hgx hx2.size
          have fc := (hx2.cells _ _ hgs).trans fc
          have fz := (hx2.frz _ _ hgs).trans fz
          have hgs := Nat.lt_of_lt_of_le hgs hx2.size
          clear hx2
          rw [HH.out]
          go_wp2
          refine wp_region_ext_tail 22 (by kernel_rfl) (by kernel_rfl) ?_
          simp only [List.take_succ_cons, List.take_zero, List.drop_succ_cons, List.drop_zero]
          iterate 22 (apply quiet_val; (focus rfl); (focus (intro w' hw'; have hk' := hw'.cells; go_simp; all_goals exact rfl)); simp only [Act.put, List.setIfInBounds_toArray, List.set_cons_succ, List.set_cons_zero])
          refine wpQuiet_nil ?_
          intro w5 hx5
          have HX5 := hide (HX2.out.trans hx5)
          have fz := (hx5.frz _ _ hgs).trans fz
          have fc := (hx5.cells _ _ hgs).trans fc
          have hgs := Nat.lt_of_lt_of_le hgs hx5.size
          clear hx5
          try simp only [kp, kq]
          go_wp2
          go_roundw
          case rel =>
            refine ⟨k + 1, by go_num, by omega, ((HX5.out.row HROW.out).set k _).congr (fun j _ => ?_), (HKP.out.trans (HX5.out.keep _)).set (fun _ hh => hh rfl) _⟩
            rw [← orK_step, HVE.out, ← HDE.out, HO.out]
          case measure => simp [intOf]; omega
      · obtain rfl : k = n0 := by omega
        have hkI : ¬ ((k : Int) < k) := by omega
        have HE := hide (show WkEnd c (.slice Av c.vars.length cv) (.slice Aa c.args.length ca) (.slice Ar c.rows.length cr) vd gx gs bs p (leftT (satB c) l [p]) W (.returned (.tuple #[])) wr by
          refine ⟨rfl, ?_, (HX1.out.keep _).trans (HKP.out.mono (fun k _ hk => hk.2))⟩
          rw [HT.out]
          have hll : l.length = k := HST1.out.ll.trans HN.out.symm
          refine HST1.out.supp HKP.out ?_ (HST1.out.dom.orT HST1.out.val (by rw [HP.out, HST1.out.ll])) (by rw [orT_len, HST1.out.ll])
          rw [← HN.out]
          refine HROW.out.congr (fun j hj => ?_)
          rw [← hll, orK_all (by omega)])
        go_wp2
        go_end0
        exact HE.out
end Go.Proofs.Ytgeflejmdlipmaa
/- The reference's walk over all tuples of a constraint: a node, and the whole. -/
namespace Go.Proofs.Ytgeflejmdlipmaa
open Go.RowKit

/-- The tuples that begin with p and one of the values of d below k. -/
def partW (p : List Int) (d : Int) (rs : List Int) (k : Nat) : List (List Int) := (domK d k).flatMap fun u => (tups rs).map fun t => p ++ u :: t
theorem partW_zero (p : List Int) (d : Int) (rs : List Int) : partW p d rs 0 = [] := rfl
theorem partW_yes (p : List Int) {d : Int} (rs : List Int) {k : Nat} (h : hasB d k = true) : partW p d rs (k + 1) = partW p d rs k ++ (tups rs).map fun t => (p ++ [(k : Int)]) ++ t := by
  unfold partW
  rw [domK, if_pos h, List.flatMap_append]
  simp
theorem partW_no (p : List Int) {d : Int} (rs : List Int) {k : Nat} (h : hasB d k = false) : partW p d rs (k + 1) = partW p d rs k := by
  unfold partW
  rw [domK, h, if_neg (by simp)]
theorem partW_all (p : List Int) (d : Int) (rs : List Int) : partW p d rs 6 = (tups (d :: rs)).map fun t => p ++ t := by
  unfold partW
  simp [tups, domL, List.map_flatMap, List.map_map, Function.comp_def]
theorem leftT_app (q : List Int → Bool) (l : List Int) (A B : List (List Int)) : leftT q l (A ++ B) = leftT q (leftT q l A) B := by
  unfold leftT; rw [List.foldl_append]
theorem at0_mid (a : List Int) (d : Int) (b : List Int) {i : Nat} (h : i = a.length) : at0 (a ++ d :: b) i = d := by
  subst h
  unfold at0
  rw [getD_lt _ _ (by simp)]
  simp
set_option maxRecDepth 100000 in
set_option maxHeartbeats 8000000 in
theorem walk_node (c : Con) (ds : List Int) (vv va vr vd : Value) (gx gs bs : Nat) (w0 : World) (hcv : vCon c ds.length = true) (hV : SInts w0 vv c.vars) (hD : SInts w0 vd ds) (hd : DomL ds) (hgx : w0.heap.size ≤ gx) (hgs : w0.heap.size ≤ gs) (d : Int) (rs : List Int)
    (IH : ∀ (done p l : List Int) (W : World), wordL c.vars ds = done ++ rs → p.length = done.length → Ext w0 W → WkSt c vv va vr vd gx gs bs p l W →
      Calls Try.prog 101 #[.pointer (some ⟨bs, 0, none⟩), .int .i64 p.length] W (WkEnd c vv va vr vd gx gs bs p (leftT (satB c) l ((tups rs).map fun t => p ++ t)) W))
    (done p l : List Int) (W : World) (hds : wordL c.vars ds = done ++ d :: rs) (hp : p.length = done.length) (hx0 : Ext w0 W) (hst : WkSt c vv va vr vd gx gs bs p l W) :
    Calls Try.prog 101 #[.pointer (some ⟨bs, 0, none⟩), .int .i64 p.length] W (WkEnd c vv va vr vd gx gs bs p (leftT (satB c) l ((tups (d :: rs)).map fun t => p ++ t)) W) := by
  have hvl := vCon_len hcv
  have hok := vCon_var hcv
  have hlt : p.length < c.vars.length := by
    have h := wordL_len c.vars ds
    rw [hds] at h; simp at h; omega
  have hat : at0 ds (at0 c.vars p.length).toNat = d := by
    rw [← wordL_at ds hlt, hds]; exact at0_mid _ _ _ hp
  obtain ⟨hu0, hul⟩ := hok.rg p.length hlt
  obtain ⟨u, hu⟩ : ∃ u : Nat, at0 c.vars p.length = u := ⟨(at0 c.vars p.length).toNat, by omega⟩
  rw [hu, Int.toNat_natCast] at hat hul
  have hdb := hd u hul
  rw [hat] at hdb
  obtain ⟨Av, cv, rfl, -, hlv⟩ := hV.form
  obtain ⟨Ad, cd, rfl, -, hld⟩ := hD.form
  obtain ⟨bv, ov, rfl, hbv, f1⟩ := hV.at_ hlt
  obtain ⟨bd, od, rfl, hbd, f2⟩ := hD.at_ hul
  rw [hu] at f1
  rw [hat] at f2
  have HST := hide hst
  have HIH := hide IH
  have HD := hide hds
  have HP := hide hp
  have HX0 := hide hx0
  have F1 := hide f1
  have F2 := hide f2
  have hn4 : c.vars.length ≤ 4 := by omega
  have hpI : (p.length : Int) < c.vars.length := by omega
  have hulI : (u : Int) < ds.length := by omega
  have hne : ((p.length : Int) == (c.vars.length : Int)) = false := by rw [beq_eq_false_iff_ne]; omega
  have c6 := hst.c6
  have hltb := hst.lt
  clear hst hds hp hx0 hat IH hu f1 f2 hvl hok hV hD hd hcv hu0
  go_enter Try.func101, Try.ntmps101
  go_wp2_with fail
  go_loopw [5] (fun i wr => ∃ k : Nat, k ≤ 6 ∧ i = .int .i64 k ∧ WkSt c (.slice (some ⟨bv, ov, none⟩) c.vars.length cv) va vr (.slice (some ⟨bd, od, none⟩) ds.length cd) gx gs bs p (leftT (satB c) l (partW p d rs k)) wr ∧ Keep (fun k => k ≠ gx ∧ k ≠ gs) W wr) (fun i _ => 6 - (intOf i).toNat)
  case atStart => exact ⟨0, by omega, rfl, by rw [partW_zero]; exact HST.out, Keep.refl _ _⟩
  case round =>
    obtain ⟨k, hk, rfl, hS, hK⟩ := hrel
    have HS := hide hS
    have HK := hide hK
    have hE0 : Ext w0 wr := Below.trans HX0.out (hK.below HX0.out.size (fun k hk => by omega))
    have HE0 := hide hE0
    have c1 := hS.c1
    have c5 := hS.c5
    have c6 := hS.c6
    have hlr := hS.lt
    have g1 := (hE0.cells _ _ hbv).trans F1.out
    have g2 := (hE0.cells _ _ hbd).trans F2.out
    have hbvr := Nat.lt_of_lt_of_le hbv hE0.size
    have hbdr := Nat.lt_of_lt_of_le hbd hE0.size
    obtain ⟨fr, hrow, -⟩ := hS.rx
    have hgl := hrow.lt
    have x0 := hrow.cell hlt
    have xz := hrow.frozen p.length
    clear hS hK hE0 hrow
    by_cases hk6 : k < 6
    · have hkI : (k : Int) < 6 := by omega
      have hkI5 : (k : Int) ≤ 5 := by omega
      have hk5 : k ≤ 5 := by omega
      cases hh : hasB d k with
      | false =>
        have HH := hide hh
        have HN := hide (partW_no p rs hh)
        clear hh
        go_wp2_with fail
        refine wp_region_ext (by kernel_rfl) (by kernel_rfl) ?_
        iterate 15 (apply quiet_val; (focus rfl); (focus (intro w' hw'; have hk' := hw'.cells; go_simp; all_goals exact rfl)); simp only [Act.put, List.setIfInBounds_toArray, List.set_cons_succ, List.set_cons_zero])
        apply quiet_call; (focus rfl); (focus (intro w' hw'; go_simp; all_goals (first | exact rfl | (apply And.intro <;> exact rfl))))
        · exact fun w' hw' => same_quiet (domainHas_any d k w' hdb.1 (by omega) hk5) hw'
        (simp only [Act.put, List.setIfInBounds_toArray, List.set_cons_succ, List.set_cons_zero])
        refine wpQuiet_nil ?_
        intro w2 hx2
        have HX2 := hide hx2
        clear hx2
        rw [HH.out]
        go_wp2_with fail
        go_roundw
        case rel => exact ⟨k + 1, by omega, by go_num, by rw [HN.out]; exact HS.out.ext HX2.out, HK.out.ext HX2.out⟩
        case measure => simp [intOf]; omega
      | true =>
        have HH := hide hh
        have HN := hide (partW_yes p rs hh)
        clear hh
        go_wp2_with fail
        refine wp_region_ext (by kernel_rfl) (by kernel_rfl) ?_
        iterate 15 (apply quiet_val; (focus rfl); (focus (intro w' hw'; have hk' := hw'.cells; go_simp; all_goals exact rfl)); simp only [Act.put, List.setIfInBounds_toArray, List.set_cons_succ, List.set_cons_zero])
        apply quiet_call; (focus rfl); (focus (intro w' hw'; go_simp; all_goals (first | exact rfl | (apply And.intro <;> exact rfl))))
        · exact fun w' hw' => same_quiet (domainHas_any d k w' hdb.1 (by omega) hk5) hw'
        (simp only [Act.put, List.setIfInBounds_toArray, List.set_cons_succ, List.set_cons_zero])
        refine wpQuiet_nil ?_
        intro w2 hx2
        have HX2 := hide hx2
        have c6 := (hx2.cells _ _ hlr).trans c6
        have hlr := Nat.lt_of_lt_of_le hlr hx2.size
        have x0 := (hx2.cells _ _ hgl).trans x0
        have xz := (hx2.frz _ _ hgl).trans xz
        have hgl := Nat.lt_of_lt_of_le hgl hx2.size
        clear hx2 c1 c5 g1 g2
        rw [HH.out]
        go_wp2_with fail
        have hK4 := hide (show Keep (fun k => k ≠ gx ∧ k ≠ gs) wr (w2.setCell ⟨gx, p.length, none⟩ (.int .i64 k)) from (HX2.out.keep _).set (fun _ hh => hh.1 rfl) _)
        have hE4 : Ext w0 (w2.setCell ⟨gx, p.length, none⟩ (.int .i64 k)) := Below.trans HX0.out ((HK.out.trans hK4.out).below HX0.out.size (fun k hk => by omega))
        have hpl : ((p.length : Int) + 1) = ((p ++ [(k : Int)]).length : Int) := by simp
        have hih := HIH.out (done ++ [d]) (p ++ [(k : Int)]) (leftT (satB c) l (partW p d rs k)) _ (by rw [HD.out]; simp) (by simp [HP.out]) hE4 ((HS.out.ext HX2.out).push (k : Int) (by omega) hkI5 hlt)
        rw [← hpl] at hih
        refine hih.mono ?_
        clear hih hE4 hpl
        rintro e W5 ⟨rfl, hS5, hK5⟩
        have HS5 := hide hS5
        have HK5 := hide hK5
        clear hS5 hK5 x0 xz
        go_wp2_with fail
        go_roundw
        case rel => exact ⟨k + 1, by omega, by go_num, by rw [HN.out, leftT_app]; exact HS5.out.pop, HK.out.trans (hK4.out.trans HK5.out)⟩
        case measure => simp [intOf]; omega
    · obtain rfl : k = 6 := by omega
      have hE := hide (show WkEnd c (.slice (some ⟨bv, ov, none⟩) c.vars.length cv) va vr (.slice (some ⟨bd, od, none⟩) ds.length cd) gx gs bs p (leftT (satB c) l ((tups (d :: rs)).map fun t => p ++ t)) W (.returned (.tuple #[])) wr by rw [← partW_all]; exact ⟨rfl, HS.out, HK.out⟩)
      go_wp2_with fail
      go_end0
      exact hE.out
theorem walk_any (c : Con) (ds : List Int) (vv va vr vd : Value) (gx gs bs : Nat) (w0 : World) (hcv : vCon c ds.length = true) (hV : SInts w0 vv c.vars) (hA : SInts w0 va c.args) (hR : SRows w0 vr c.rows) (hD : SInts w0 vd ds) (hd : DomL ds) (hgx : w0.heap.size ≤ gx) (hgs : w0.heap.size ≤ gs) :
    ∀ (rs done p l : List Int) (W : World), wordL c.vars ds = done ++ rs → p.length = done.length → Ext w0 W → WkSt c vv va vr vd gx gs bs p l W →
      Calls Try.prog 101 #[.pointer (some ⟨bs, 0, none⟩), .int .i64 p.length] W (WkEnd c vv va vr vd gx gs bs p (leftT (satB c) l ((tups rs).map fun t => p ++ t)) W)
  | [], done, p, l, W, hds, hp, hx, hst => by
    have hl : p.length = c.vars.length := by
      have h := wordL_len c.vars ds
      rw [hds] at h; simp at h; omega
    have := walk_leaf c ds.length vv va vr vd gx gs bs p l W hcv (hV.ext hx) (hA.ext hx) (hR.ext hx) hl hst
    simpa [tups] using this
  | d :: rs, done, p, l, W, hds, hp, hx, hst =>
    walk_node c ds vv va vr vd gx gs bs w0 hcv hV hD hd hgx hgs d rs (fun done p l W => walk_any c ds vv va vr vd gx gs bs w0 hcv hV hA hR hD hd hgx hgs rs done p l W) done p l W hds hp hx hst
end Go.Proofs.Ytgeflejmdlipmaa
/- supported of the reference: what a constraint leaves of the domains. -/
namespace Go.Proofs.Ytgeflejmdlipmaa
open Go.RowKit
attribute [local go_sem] evalOf

/-- A new row of n zeros. -/
def RS.zr (D : List Nat) (B n : Nat) : RS := ⟨D, fun _ v W => ∃ b, v = .slice (some ⟨b, 0, none⟩) n n ∧ B ≤ b ∧ W.rowIs b 3 n (fun _ => .int .i64 0), fun _ _ _ _ h hx => by obtain ⟨b, h1, h2, h3⟩ := h; exact ⟨b, h1, h2, hx.row h3⟩⟩
/-- A new box that holds the parts of a struct of eight cells. -/
def RS.en (D : List Nat) (B : Nat) : RS := ⟨D, fun vs v W => ∃ (b : Nat) (cs : Array Value), vs.getD 0 undef = .agg cs ∧ cs.size = 8 ∧ v = .pointer (some ⟨b, 0, none⟩) ∧ B ≤ b ∧ W.rowIs b 91 8 (fun k => cs.getD k undef), fun _ _ _ _ h hx => by obtain ⟨b, cs, h1, h2, h3, h4, h5⟩ := h; exact ⟨b, cs, h1, h2, h3, h4, hx.row h5⟩⟩
/-- A struct of which two parts are slices that have been made. -/
def RS.bd (D : List Nat) (n : Nat) (F : Nat → Nat → Array Value) : RS := ⟨D, fun vs v _ => ∃ gx gs, vs.getD 2 undef = .slice (some ⟨gx, 0, none⟩) n n ∧ vs.getD 3 undef = .slice (some ⟨gs, 0, none⟩) n n ∧ v = .agg (F gx gs), fun _ _ _ _ h _ => h⟩
theorem row_ty {W : World} {b : Nat} {t u : TypeId} {n m : Nat} {f g : Nat → Value} (h : W.rowIs b t n f) (k : W.rowIs b u m g) : t = u := by
  obtain ⟨c1, p1, -⟩ := h
  obtain ⟨c2, p2, -⟩ := k
  rw [p1] at p2
  injection p2 with p2
  injection p2 with _ p3
theorem getD_some {cs : Array Value} {i : Nat} (hi : i < cs.size) : cs[i]? = some (cs.getD i undef) := by simp [Array.getD_eq_getD_getElem?, hi]
theorem leftW {c : Con} {ds : List Int} (p : List Int → Bool) : (leftT p (zer c.vars.length) (tups (wordL c.vars ds))).length = c.vars.length := (left_spec p c.vars ds).1
set_option maxRecDepth 100000 in
set_option maxHeartbeats 8000000 in
theorem supported_any (v vd : Value) (c : Con) (ds : List Int) (w : World) (hC : SCon w v c) (hD : SInts w vd ds) (hcv : vCon c ds.length = true) (hd : DomL ds) :
    Calls Try.prog 82 #[v, vd] w (OwnRes (filtL c ds) w) := by
  have hvl := vCon_len hcv
  have HOK := hide (vCon_var hcv)
  have HCV := hide hcv
  have HDM := hide hd
  have hC0 := hide hC
  have hD0 := hide hD
  obtain ⟨vv, va, vr, rfl, hV, hA, hR⟩ := hC
  obtain ⟨Av, cv, rfl, -, hlv⟩ := hV.form
  obtain ⟨Aa, ca, rfl, -, hla⟩ := hA.form
  obtain ⟨Ar, cr, rfl, -, hlr⟩ := hR.form
  obtain ⟨Ad, cd, rfl, -, hld⟩ := hD.form
  have hV0 := hide hV
  have hA0 := hide hA
  have hR0 := hide hR
  have hn4 : c.vars.length ≤ 4 := by omega
  have hn0 : 0 < c.vars.length := by omega
  have hdp : 0 < ds.length := by omega
  obtain ⟨w0, hw0⟩ : ∃ w0, w0 = w.alloc (.cells #[.int .i64 c.kk, .slice Av c.vars.length cv, .slice Aa c.args.length ca, .int .i64 c.bound, .slice Ar c.rows.length cr] 54) := ⟨_, rfl⟩
  have hx0 : Ext w w0 := by rw [hw0]; exact (Ext.refl w).alloc _
  have k0 : w0.cell? ⟨w.heap.size, 0, none⟩ = some (.int .i64 c.kk) := by rw [hw0]; go_simp
  have k1 : w0.cell? ⟨w.heap.size, 1, none⟩ = some (.slice Av c.vars.length cv) := by rw [hw0]; go_simp
  have k2 : w0.cell? ⟨w.heap.size, 2, none⟩ = some (.slice Aa c.args.length ca) := by rw [hw0]; go_simp
  have k3 : w0.cell? ⟨w.heap.size, 3, none⟩ = some (.int .i64 c.bound) := by rw [hw0]; go_simp
  have k4 : w0.cell? ⟨w.heap.size, 4, none⟩ = some (.slice Ar c.rows.length cr) := by rw [hw0]; go_simp
  have ks : w.heap.size < w0.heap.size := by rw [hw0]; simp
  have HX0 := hide hx0
  have K1 := hide k1
  clear hV hA hR hD hcv hd hvl
  go_enter Try.func82, Try.ntmps82
  go_wp2
  rw [← hw0]
  refine wp_region_relMT (mk := [5, 9]) OldS ApS OldS.ext (n := 12) (ts := [12]) (sp := [RS.q [] (fun _ => .agg #[.int .i64 c.kk, .slice Av c.vars.length cv, .slice Aa c.args.length ca, .int .i64 c.bound, .slice Ar c.rows.length cr]), RS.q [] (fun _ => .slice Ad ds.length cd), RS.q [] (fun _ => .pointer (some ⟨w.heap.size, 1, none⟩)), RS.q [2] (fun _ => .slice Av c.vars.length cv), RS.q [3] (fun _ => .int .i64 c.vars.length), RS.zr [4] w0.heap.size c.vars.length, RS.q [] (fun _ => .pointer (some ⟨w.heap.size, 1, none⟩)), RS.q [6] (fun _ => .slice Av c.vars.length cv), RS.q [7] (fun _ => .int .i64 c.vars.length), RS.zr [8] w0.heap.size c.vars.length, RS.bd [0, 1, 5, 9] c.vars.length (fun gx gs => #[.int .i64 c.kk, .slice Av c.vars.length cv, .slice Aa c.args.length ca, .int .i64 c.bound, .slice Ar c.rows.length cr, .slice Ad ds.length cd, .slice (some ⟨gx, 0, none⟩) c.vars.length c.vars.length, .slice (some ⟨gs, 0, none⟩) c.vars.length c.vars.length]), RS.en [10] w0.heap.size])
    (fun W => Ext w0 W) (by kernel_rfl) (relOK (D := [[], [], [], [2], [3], [4], [], [6], [7], [8], [0, 1, 5, 9], [10]]) rfl (by kernel_rfl) rfl) (by kernel_rfl) (fun W W' h hx => h.trans hx) (Ext.refl w0).drew (by decide) ?steps ?ends
  case steps =>
    refine ⟨?_, ?_, ?_, ?_, ?_, ?_, ?_, ?_, ?_, ?_, ?_, ?_, trivial⟩
    · intro V τ W hC hf ht h0
      have s2 : τ 2 = .pointer (some ⟨w.heap.size, 0, none⟩) := h0 2 (by kernel_rfl)
      have k0 := (hC.cells _ _ ks).trans k0
      have k1 := (hC.cells _ _ ks).trans k1
      have k2 := (hC.cells _ _ ks).trans k2
      have k3 := (hC.cells _ _ ks).trans k3
      have k4 := (hC.cells _ _ ks).trans k4
      refine Does.val (w' := W) (v := .agg #[.int .i64 c.kk, .slice Av c.vars.length cv, .slice Aa c.args.length ca, .int .i64 c.bound, .slice Ar c.rows.length cr]) ?_ ⟨⟨Ext.refl W, rfl⟩, fun h => absurd h (by decide)⟩
      clear h0 ht hf
      have e2 : evalOf τ (.tmp 2) = .pointer (some ⟨w.heap.size, 0, none⟩) := s2
      clear hw0
      go_simp
      try simp only [e2]
      try go_simp
    · intro V τ W hC hf ht h0
      have s1 : τ 1 = .slice Ad ds.length cd := h0 1 (by kernel_rfl)
      refine Does.val (w' := W) (v := .slice Ad ds.length cd) ?_ ⟨⟨Ext.refl W, rfl⟩, fun h => absurd h (by decide)⟩
      go_simp
    · intro V τ W hC hf ht h0
      have s2 : τ 2 = .pointer (some ⟨w.heap.size, 0, none⟩) := h0 2 (by kernel_rfl)
      refine Does.val (w' := W) (v := .pointer (some ⟨w.heap.size, 1, none⟩)) ?_ ⟨⟨Ext.refl W, rfl⟩, fun h => absurd h (by decide)⟩
      go_simp
    · intro V τ W hC hf ht h0
      have f2 : V 2 = .pointer (some ⟨w.heap.size, 1, none⟩) := hf 2 (by simp [RS.at_, RS.q])
      have s10 := (ht 2 (by simp [RS.at_, RS.q]) 10 rfl).trans f2
      have k1 := (hC.cells _ _ ks).trans k1
      refine Does.val (w' := W) (v := .slice Av c.vars.length cv) ?_ ⟨⟨Ext.refl W, rfl⟩, fun h => absurd h (by decide)⟩
      go_simp
    · intro V τ W hC hf ht h0
      have f3 : V 3 = .slice Av c.vars.length cv := hf 3 (by simp [RS.at_, RS.q])
      have s11 := (ht 3 (by simp [RS.at_, RS.q]) 11 rfl).trans f3
      refine Does.val (w' := W) (v := .int .i64 c.vars.length) ?_ ⟨⟨Ext.refl W, rfl⟩, fun h => absurd h (by decide)⟩
      go_simp
    · intro V τ W hC hf ht h0
      have f4 : V 4 = .int .i64 c.vars.length := hf 4 (by simp [RS.at_, RS.zr])
      have s12 := (ht 4 (by simp [RS.at_, RS.zr]) 12 rfl).trans f4
      refine Does.make _ _ 23 rfl 3 (.int .i64 0) 1 8 Try.underlying23 Try.infoI .i64 .i64 c.vars.length s12 s12 (by omega) (by omega) (fun _ => .int .i64 0) (fun i _ => by simp [Value.cells, Nat.mod_one]) ?_
      intro W' hrow hsz hx
      rw [Nat.mul_one] at hrow
      exact ⟨⟨hx, W.heap.size, rfl, hC.size, hrow⟩, fun _ => ⟨⟨_, _, rfl, by omega⟩, fun u hu => hu.new _ _⟩⟩
    · intro V τ W hC hf ht h0
      have s2 : τ 2 = .pointer (some ⟨w.heap.size, 0, none⟩) := h0 2 (by kernel_rfl)
      refine Does.val (w' := W) (v := .pointer (some ⟨w.heap.size, 1, none⟩)) ?_ ⟨⟨Ext.refl W, rfl⟩, fun h => absurd h (by decide)⟩
      go_simp
    · intro V τ W hC hf ht h0
      have f6 : V 6 = .pointer (some ⟨w.heap.size, 1, none⟩) := hf 6 (by simp [RS.at_, RS.q])
      have s14 := (ht 6 (by simp [RS.at_, RS.q]) 14 rfl).trans f6
      have k1 := (hC.cells _ _ ks).trans k1
      refine Does.val (w' := W) (v := .slice Av c.vars.length cv) ?_ ⟨⟨Ext.refl W, rfl⟩, fun h => absurd h (by decide)⟩
      go_simp
    · intro V τ W hC hf ht h0
      have f7 : V 7 = .slice Av c.vars.length cv := hf 7 (by simp [RS.at_, RS.q])
      have s15 := (ht 7 (by simp [RS.at_, RS.q]) 15 rfl).trans f7
      refine Does.val (w' := W) (v := .int .i64 c.vars.length) ?_ ⟨⟨Ext.refl W, rfl⟩, fun h => absurd h (by decide)⟩
      go_simp
    · intro V τ W hC hf ht h0
      have f8 : V 8 = .int .i64 c.vars.length := hf 8 (by simp [RS.at_, RS.zr])
      have s16 := (ht 8 (by simp [RS.at_, RS.zr]) 16 rfl).trans f8
      refine Does.make _ _ 23 rfl 3 (.int .i64 0) 1 8 Try.underlying23 Try.infoI .i64 .i64 c.vars.length s16 s16 (by omega) (by omega) (fun _ => .int .i64 0) (fun i _ => by simp [Value.cells, Nat.mod_one]) ?_
      intro W' hrow hsz hx
      rw [Nat.mul_one] at hrow
      exact ⟨⟨hx, W.heap.size, rfl, hC.size, hrow⟩, fun _ => ⟨⟨_, _, rfl, by omega⟩, fun u hu => hu.new _ _⟩⟩
    · intro V τ W hC hf ht h0
      have f0 : V 0 = .agg #[.int .i64 c.kk, .slice Av c.vars.length cv, .slice Aa c.args.length ca, .int .i64 c.bound, .slice Ar c.rows.length cr] := hf 0 (by simp [RS.at_, RS.bd])
      have f1 : V 1 = .slice Ad ds.length cd := hf 1 (by simp [RS.at_, RS.bd])
      obtain ⟨b5, f5, -, -⟩ := (show ∃ b, V 5 = _ ∧ _ ∧ _ from hf 5 (by simp [RS.at_, RS.bd]))
      obtain ⟨b9, f9, -, -⟩ := (show ∃ b, V 9 = _ ∧ _ ∧ _ from hf 9 (by simp [RS.at_, RS.bd]))
      have s8 := (ht 0 (by simp [RS.at_, RS.bd]) 8 rfl).trans f0
      have s9 := (ht 1 (by simp [RS.at_, RS.bd]) 9 rfl).trans f1
      have s13 := (ht 5 (by simp [RS.at_, RS.bd]) 13 rfl).trans f5
      have s17 := (ht 9 (by simp [RS.at_, RS.bd]) 17 rfl).trans f9
      refine Does.val (w' := W) (v := .agg #[.int .i64 c.kk, .slice Av c.vars.length cv, .slice Aa c.args.length ca, .int .i64 c.bound, .slice Ar c.rows.length cr, .slice Ad ds.length cd, .slice (some ⟨b5, 0, none⟩) c.vars.length c.vars.length, .slice (some ⟨b9, 0, none⟩) c.vars.length c.vars.length]) ?_ ⟨⟨Ext.refl W, b5, b9, f5, f9, rfl⟩, fun h => absurd h (by decide)⟩
      go_simp
    · intro V τ W hC hf ht h0
      obtain ⟨gx, gs, -, -, f10⟩ := (show ∃ gx gs, _ ∧ _ ∧ V 10 = .agg _ from hf 10 (by simp [RS.at_, RS.en]))
      have s18 := (ht 10 (by simp [RS.at_, RS.en]) 18 rfl).trans f10
      refine Does.val (w' := W.alloc (.cells #[.int .i64 c.kk, .slice Av c.vars.length cv, .slice Aa c.args.length ca, .int .i64 c.bound, .slice Ar c.rows.length cr, .slice Ad ds.length cd, .slice (some ⟨gx, 0, none⟩) c.vars.length c.vars.length, .slice (some ⟨gs, 0, none⟩) c.vars.length c.vars.length] 91)) (v := .pointer (some ⟨W.heap.size, 0, none⟩)) ?_ ⟨⟨(Ext.refl W).alloc _, W.heap.size, _, f10, rfl, rfl, hC.size, World.rowIs_alloc _ _ _ _ (fun i hi => getD_some hi)⟩, fun h => absurd h (by decide)⟩
      clear h0 ht hf hw0
      go_simp
  case ends =>
    intro V W hC hf hp
    have f0 : V 0 = .agg #[.int .i64 c.kk, .slice Av c.vars.length cv, .slice Aa c.args.length ca, .int .i64 c.bound, .slice Ar c.rows.length cr] := hf 0 (by omega)
    have f1 : V 1 = .slice Ad ds.length cd := hf 1 (by omega)
    have f2 : V 2 = .pointer (some ⟨w.heap.size, 1, none⟩) := hf 2 (by omega)
    have f3 : V 3 = .slice Av c.vars.length cv := hf 3 (by omega)
    have f4 : V 4 = .int .i64 c.vars.length := hf 4 (by omega)
    obtain ⟨gx, f5, hgx, hrx⟩ := (show ∃ b, V 5 = _ ∧ _ ∧ _ from hf 5 (by omega))
    have f6 : V 6 = .pointer (some ⟨w.heap.size, 1, none⟩) := hf 6 (by omega)
    have f7 : V 7 = .slice Av c.vars.length cv := hf 7 (by omega)
    have f8 : V 8 = .int .i64 c.vars.length := hf 8 (by omega)
    obtain ⟨gs, f9, hgs, hrs⟩ := (show ∃ b, V 9 = _ ∧ _ ∧ _ from hf 9 (by omega))
    obtain ⟨gx', gs', f5', f9', f10⟩ := (show ∃ gx gs, V 5 = _ ∧ V 9 = _ ∧ V 10 = .agg _ from hf 10 (by omega))
    obtain rfl : gx' = gx := by rw [f5] at f5'; injection f5' with e; injection e with e; injection e with e; exact e.symm
    obtain rfl : gs' = gs := by rw [f9] at f9'; injection f9' with e; injection e with e; injection e with e; exact e.symm
    obtain ⟨bs, cs, f10', -, f11, hbs, hrb⟩ := (show ∃ b cs, V 10 = .agg cs ∧ _ ∧ V 11 = _ ∧ _ ∧ _ from hf 11 (by omega))
    rw [f10] at f10'
    injection f10' with f10'
    subst f10'
    have hne : gx' ≠ gs' := hp 5 (by simp) 9 (by simp) (by decide) gx' _ _ gs' _ _ f5 f9
    clear hf hp
    simp only [List.take_succ_cons, List.take_zero, putAll, Act.put, List.setIfInBounds_toArray, List.set_cons_succ, List.set_cons_zero, Nat.reduceAdd, f0, f1, f2, f3, f4, f5, f6, f7, f8, f9, f10, f11]
    simp only [nths, nth1]
    have HC := hide hC
    have HRX := hide hrx
    have HRB := hide hrb
    have HRS := hide hrs
    have hsz := hC.size
    have hgxl := hrx.lt
    have hgsl := hrs.lt
    clear hC hrx hrs hrb f0 f1 f2 f3 f4 f5 f6 f7 f8 f9 f10 f11 f5' f9' k0 k2 k3 k4
    have hst : WkSt c (.slice Av c.vars.length cv) (.slice Aa c.args.length ca) (.slice Ar c.rows.length cr) (.slice Ad ds.length cd) gx' gs' bs [] (zer c.vars.length) W :=
      ⟨HRB.out.cell (i := 0) (by omega), HRB.out.cell (i := 1) (by omega), HRB.out.cell (i := 2) (by omega), HRB.out.cell (i := 3) (by omega), HRB.out.cell (i := 4) (by omega), HRB.out.cell (i := 5) (by omega), HRB.out.cell (i := 6) (by omega), HRB.out.cell (i := 7) (by omega),
       ⟨_, HRX.out, fun j hj => absurd hj (by simp)⟩, HRS.out.congr (fun j _ => by rw [zer_at]), fun i hi => absurd hi (by simp), DomL.zer _, zer_len _, Nat.zero_le _, hne,
       fun e => by have h := HRX.out; rw [e] at h; have := row_ty h HRB.out; revert this; decide,
       fun e => by have h := HRS.out; rw [e] at h; have := row_ty h HRB.out; revert this; decide, HRB.out.lt⟩
    have he := walk_any c ds _ _ _ _ gx' gs' bs w0 HCV.out (hV0.out.ext HX0.out) (hA0.out.ext HX0.out) (hR0.out.ext HX0.out) (hD0.out.ext HX0.out) HDM.out hgx hgs (wordL c.vars ds) [] [] (zer c.vars.length) W rfl rfl HC.out hst
    have hmap : (tups (wordL c.vars ds)).map (fun t => [] ++ t) = tups (wordL c.vars ds) := by simp
    rw [hmap] at he
    clear hst hmap hw0
    go_wp2_with fail
    refine he.mono ?_
    clear he
    rintro e W4 ⟨rfl, hS4, hK4⟩
    have HS4 := hide hS4
    have hE4 : Ext w0 W4 := Below.trans HC.out (hK4.below hsz (fun k hk => by omega))
    have HE4 := hide hE4
    have g1 := (hE4.cells _ _ ks).trans K1.out
    have ks4 := Nat.lt_of_lt_of_le ks hE4.size
    clear hS4 hK4 hE4 k1
    go_wp2_with fail
    refine (copyInts_any _ ds _ (hD0.out.ext (HX0.out.trans HE4.out)) hdp).mono ?_
    rintro e W5 ⟨Ao, co, bo, mo, fo, rfl, hco, hdo, hbo, hoo, hx5⟩
    obtain ⟨rfl, hro, hmo, hfo⟩ := hoo hdp
    have HS5 := hide (HS4.out.ext hx5)
    have HX5 := hide ((HX0.out.trans HE4.out).trans hx5)
    have HXO := hide (HX0.out.trans HE4.out)
    have HRO := hide hro
    have HFO := hide hfo
    have hbol := hro.lt
    have hbs4 := HS4.out.lt
    have g1 := (hx5.cells _ _ ks4).trans g1
    have ks5 := Nat.lt_of_lt_of_le ks4 hx5.size
    have hgs4 := HS4.out.rs.lt
    have hbsn : bs ≠ bo := by omega
    have hgsn : gs' ≠ bo := by omega
    have hwn : w.heap.size ≠ bo := by omega
    have hbow : w.heap.size ≤ bo := Nat.le_trans (HX0.out.trans HE4.out).size hbo
    obtain ⟨L, hL⟩ : ∃ L, L = leftT (satB c) (zer c.vars.length) (tups (wordL c.vars ds)) := ⟨_, rfl⟩
    have HL := hide hL
    rw [← hL] at HS4 HS5
    have c7 := HS5.out.c7
    clear hx5 hro hfo hoo hL
    go_wp2
    go_loopw [7] (fun i wr => ∃ (k : Nat) (f : Nat → Value), i = .int .i64 k ∧ k ≤ c.vars.length ∧ wr.rowIs bo 3 mo f ∧ (∀ j, j < ds.length → f j = .int .i64 (at0 (putV ds c.vars L k) j)) ∧ Keep (fun j => j ≠ bo) W5 wr) (fun i _ => c.vars.length - (intOf i).toNat)
    case atStart => exact ⟨0, fo, rfl, Nat.zero_le _, HRO.out, HFO.out, Keep.refl _ _⟩
    case round =>
      obtain ⟨k, f, rfl, hk, hrow, hf, hkp⟩ := hrel
      have HROW := hide hrow
      have HF := hide hf
      have HKP := hide hkp
      have g1 := (hkp.cell (p := ⟨w.heap.size, 1, none⟩) ks5 hwn).trans g1
      have ksr := Nat.lt_of_lt_of_le ks5 hkp.size
      have c7 := (hkp.cell (p := ⟨bs, 7, none⟩) HS5.out.lt hbsn).trans c7
      have hbsr := Nat.lt_of_lt_of_le HS5.out.lt hkp.size
      by_cases hlt : k < c.vars.length
      · have hkI : (k : Int) < c.vars.length := by omega
        have hrs := hkp.row (g := gs') hgsn HS5.out.rs
        have fs := hrs.cell hlt
        have hgsr := hrs.lt
        obtain ⟨bv, ov, rfl, hbv, f1⟩ := hV0.out.at_ hlt
        obtain ⟨hu0, hul⟩ := HOK.out.rg k hlt
        obtain ⟨u, hu⟩ : ∃ u : Nat, at0 c.vars k = u := ⟨(at0 c.vars k).toNat, by omega⟩
        rw [hu] at f1 hu0 hul
        have hul : u < ds.length := hul
        have hulI : (u : Int) < ds.length := by omega
        have hbv5 := Nat.lt_of_lt_of_le hbv HX5.out.size
        have f1 := (hkp.cell (p := ⟨bv, ov + k, none⟩) hbv5 (by show bv ≠ bo; omega)).trans ((HX5.out.cells _ _ hbv).trans f1)
        have hbvr := Nat.lt_of_lt_of_le hbv5 hkp.size
        have fo0 := hrow.cell (i := u) (by omega)
        have foz := hrow.frozen u
        have hbor := hrow.lt
        have HP := hide (show ∀ j, j < ds.length → (if j = u then Value.int .i64 (at0 L k) else f j) = .int .i64 (at0 (putV ds c.vars L (k + 1)) j) from fun j hj => by
          rw [putV, hu, Int.toNat_natCast, at0_set _ _ _ _ (by rw [putV_len]; exact hul)]
          by_cases e : j = u
          · subst e; rw [if_pos rfl, if_pos rfl]
          · rw [if_neg e, if_neg (fun h => e h.symm)]; exact hf j hj)
        clear hrow hf hkp hrs hu
        go_wp2
        refine wp_region_ext_tail 14 (by kernel_rfl) (by kernel_rfl) ?_
        simp only [List.take_succ_cons, List.take_zero, List.drop_succ_cons, List.drop_zero]
        iterate 14 (apply quiet_val; (focus rfl); (focus (intro w' hw'; have hk' := hw'.cells; go_simp; all_goals exact rfl)); simp only [Act.put, List.setIfInBounds_toArray, List.set_cons_succ, List.set_cons_zero])
        refine wpQuiet_nil ?_
        intro w7 hx7
        have HX7 := hide hx7
        have foz := (hx7.frz _ _ hbor).trans foz
        have fo0 := (hx7.cells _ _ hbor).trans fo0
        have hbor := Nat.lt_of_lt_of_le hbor hx7.size
        clear hx7
        go_wp2
        go_roundw
        case rel => exact ⟨k + 1, _, by go_num, by omega, (HX7.out.row HROW.out).set u _, HP.out, (HKP.out.trans (HX7.out.keep _)).set (fun _ hh => hh rfl) _⟩
        case measure => simp [intOf]; omega
      · obtain rfl : k = c.vars.length := by omega
        have hkI : ¬ ((c.vars.length : Int) < c.vars.length) := by omega
        have HE := hide (show OwnRes (filtL c ds) w (.returned (.slice (some ⟨bo, 0, none⟩) ds.length co)) wr by
          have hfl : filtL c ds = putV ds c.vars L c.vars.length := by rw [HL.out]; rfl
          have hlen : (filtL c ds).length = ds.length := filtP_len _ _ _
          refine ⟨some ⟨bo, 0, none⟩, co, bo, mo, f, by rw [hlen], by rw [hlen]; exact hco, by rw [hlen]; exact hdo, hbow, fun _ => ⟨rfl, HROW.out, by rw [hlen]; exact hmo, fun i hi => ?_⟩, ?_⟩
          · rw [hfl]; exact HF.out i (by rw [hlen] at hi; exact hi)
          · exact Below.trans HX5.out (HKP.out.below HX5.out.size (fun j hj => by omega)))
        go_wp2
        go_ret
        exact HE.out
end Go.Proofs.Ytgeflejmdlipmaa
