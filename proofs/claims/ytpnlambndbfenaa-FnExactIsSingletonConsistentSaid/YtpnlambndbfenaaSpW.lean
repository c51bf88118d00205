/- The reference's walk over all tuples of a constraint. -/
import Derived.Test.YtpnlambndbfenaaSpK
import Derived.Test.YtpnlambndbfenaaFilt
namespace Go.Proofs.Ytpnlambndbfenaa
open Go.RowKit

/-- The enumerator: its struct at block bs, the tuple at block gx, the support at block gs. -/
structure WkSt (c : Con) (vv va vr vd : Value) (gx gs bs : Nat) (p l : List Int) (W : World) : Prop where
  c0 : W.cell? ⟨bs, 0, none⟩ = some (.int .i64 c.kk)
  c1 : W.cell? ⟨bs, 1, none⟩ = some vv
  c2 : W.cell? ⟨bs, 2, none⟩ = some va
  c3 : W.cell? ⟨bs, 3, none⟩ = some (.int .i64 c.bound)
  c4 : W.cell? ⟨bs, 4, none⟩ = some vr
  c5 : W.cell? ⟨bs, 5, none⟩ = some vd
  c6 : W.cell? ⟨bs, 6, none⟩ = some (.slice (some ⟨gx, 0, none⟩) c.vars.length c.vars.length)
  c7 : W.cell? ⟨bs, 7, none⟩ = some (.slice (some ⟨gs, 0, none⟩) c.vars.length c.vars.length)
  rx : ∃ f, W.rowIs gx 3 c.vars.length f ∧ ∀ j, j < p.length → f j = vI (at0 p j)
  rs : W.rowIs gs 3 c.vars.length (fun j => .int .i64 (at0 l j))
  val : ValL p
  dom : DomL l
  ll : l.length = c.vars.length
  pl : p.length ≤ c.vars.length
  n1 : gx ≠ gs
  n2 : gx ≠ bs
  n3 : gs ≠ bs
  lt : bs < W.heap.size
section
variable {c : Con} {vv va vr vd : Value} {gx gs bs : Nat} {p l : List Int} {W W' : World}
theorem WkSt.ext (h : WkSt c vv va vr vd gx gs bs p l W) (hx : Ext W W') : WkSt c vv va vr vd gx gs bs p l W' := by
  obtain ⟨f, h3, h4⟩ := h.rx
  have q := fun k => hx.cells bs k h.lt
  exact ⟨(q _).trans h.c0, (q _).trans h.c1, (q _).trans h.c2, (q _).trans h.c3, (q _).trans h.c4, (q _).trans h.c5, (q _).trans h.c6, (q _).trans h.c7, ⟨f, hx.row h3, h4⟩, hx.row h.rs, h.val, h.dom, h.ll, h.pl, h.n1, h.n2, h.n3, Nat.lt_of_lt_of_le h.lt hx.size⟩
theorem WkSt.ints (h : WkSt c vv va vr vd gx gs bs p l W) (hp : p.length = c.vars.length) (h4 : c.vars.length ≤ 4) : SInts W (.slice (some ⟨gx, 0, none⟩) c.vars.length c.vars.length) p := by
  obtain ⟨f, hr, hf⟩ := h.rx
  exact ⟨_, _, by rw [hp], by omega, by omega, fun i hi => by have := h.val i hi; unfold I64; omega, fun _ => ⟨gx, 0, rfl, hr.lt, fun i hi => by rw [Nat.zero_add, hr.cell (by omega), hf i hi]; rfl⟩⟩
/-- A value more. -/
theorem WkSt.push (h : WkSt c vv va vr vd gx gs bs p l W) (x : Int) (h0 : 0 ≤ x) (h5 : x ≤ 5) (hlt : p.length < c.vars.length) : WkSt c vv va vr vd gx gs bs (p ++ [x]) l (W.setCell ⟨gx, p.length, none⟩ (.int .i64 x)) := by
  obtain ⟨f, h3, h4⟩ := h.rx
  have hn := h.n2
  have co : ∀ k, (W.setCell ⟨gx, p.length, none⟩ (.int .i64 x)).cell? ⟨bs, k, none⟩ = W.cell? ⟨bs, k, none⟩ := fun k => cell_other _ (by simp; omega)
  refine ⟨(co _).trans h.c0, (co _).trans h.c1, (co _).trans h.c2, (co _).trans h.c3, (co _).trans h.c4, (co _).trans h.c5, (co _).trans h.c6, (co _).trans h.c7, ⟨_, h3.set p.length (.int .i64 x), fun i hi => ?_⟩, h.rs.setOther (fun e => h.n1 e.symm) _, fun i hi => ?_, h.dom, h.ll, by simp; omega, h.n1, hn, h.n3, by simpa [World.setCell] using h.lt⟩
  · show (if i = p.length then _ else _) = _
    rw [List.length_append, List.length_singleton] at hi
    by_cases hip : i = p.length
    · subst hip; rw [if_pos rfl, at0_snoc]; rfl
    · rw [if_neg hip, at0_app _ _ (by omega)]; exact h4 i (by omega)
  · rw [List.length_append, List.length_singleton] at hi
    by_cases hip : i = p.length
    · subst hip; rw [at0_snoc]; exact ⟨h0, h5⟩
    · rw [at0_app _ _ (by omega)]; exact h.val i (by omega)
theorem WkSt.pop {x : Int} (h : WkSt c vv va vr vd gx gs bs (p ++ [x]) l W) : WkSt c vv va vr vd gx gs bs p l W := by
  obtain ⟨f, h3, h4⟩ := h.rx
  have hl := h.pl
  rw [List.length_append] at hl
  refine ⟨h.c0, h.c1, h.c2, h.c3, h.c4, h.c5, h.c6, h.c7, ⟨f, h3, fun i hi => ?_⟩, h.rs, fun i hi => ?_, h.dom, h.ll, by omega, h.n1, h.n2, h.n3, h.lt⟩
  · have := h4 i (by simp; omega); rwa [at0_app _ _ hi] at this
  · have := h.val i (by simp; omega); rwa [at0_app _ _ hi] at this
/-- New support. -/
theorem WkSt.supp {m : List Int} (h : WkSt c vv va vr vd gx gs bs p l W) (hk : Keep (fun k => k ≠ gs) W W') (hr : W'.rowIs gs 3 c.vars.length (fun j => .int .i64 (at0 m j))) (hd : DomL m) (hm : m.length = c.vars.length) : WkSt c vv va vr vd gx gs bs p m W' := by
  obtain ⟨f, h3, h4⟩ := h.rx
  have co : ∀ k, W'.cell? ⟨bs, k, none⟩ = W.cell? ⟨bs, k, none⟩ := fun k => hk.cell (p := ⟨bs, k, none⟩) h.lt (fun e => h.n3 e.symm)
  exact ⟨(co _).trans h.c0, (co _).trans h.c1, (co _).trans h.c2, (co _).trans h.c3, (co _).trans h.c4, (co _).trans h.c5, (co _).trans h.c6, (co _).trans h.c7, ⟨f, hk.row h.n1 h3, h4⟩, hr, h.val, hd, hm, h.pl, h.n1, h.n2, h.n3, Nat.lt_of_lt_of_le h.lt hk.size⟩
end
theorem pow_bdW {v : Nat} (hv : v < 6) : (1 : Int) ≤ 2 ^ v ∧ (2 : Int) ^ v ≤ 32 := by
  have := fin_dv (p := fun _ v => decide ((1 : Int) ≤ 2 ^ v) && decide ((2 : Int) ^ v ≤ 32)) (by decide +kernel) (Int.le_refl 0) (by omega) hv
  simpa using this
/-- How the walk ends. -/
def WkEnd (c : Con) (vv va vr vd : Value) (gx gs bs : Nat) (p l : List Int) (W : World) (e : Ending) (W' : World) : Prop :=
  e = .returned (.tuple #[]) ∧ WkSt c vv va vr vd gx gs bs p l W' ∧ Keep (fun k => k ≠ gx ∧ k ≠ gs) W W'
theorem orK_all {l x : List Int} {j : Nat} (hj : j < l.length) : orK l x l.length j = at0 (orT l x) j := by
  rw [orK, if_pos hj, orT_at x hj]
theorem orV_has' {d : Int} {v : Nat} (h : hasB d v = true) : orV d v = d := by unfold orV; rw [Int.toNat_natCast, if_pos h]
theorem orV_no {d : Int} {v : Nat} (h : hasB d v = false) : orV d v = d + 2 ^ v := by unfold orV; rw [Int.toNat_natCast, h, if_neg (by simp)]
set_option maxRecDepth 100000 in
set_option maxHeartbeats 8000000 in
theorem walk_leaf (c : Con) (n : Int) (vv va vr vd : Value) (gx gs bs : Nat) (p l : List Int) (W : World) (hcv : vCon c n = true) (hV : SInts W vv c.vars) (hA : SInts W va c.args) (hR : SRows W vr c.rows) (hp : p.length = c.vars.length) (hst : WkSt c vv va vr vd gx gs bs p l W) :
    Calls Try.prog 123 #[.pointer (some ⟨bs, 0, none⟩), .int .i64 p.length] W (WkEnd c vv va vr vd gx gs bs p (leftT (satB c) l [p]) W) := by
  have hvl := vCon_len hcv
  have h4 : c.vars.length ≤ 4 := by omega
  have HCV := hide hcv
  have HST := hide hst
  have HV := hide hV
  have HA := hide hA
  have HR := hide hR
  obtain ⟨Av, cv, rfl, -, hlv⟩ := hV.form
  obtain ⟨Aa, ca, rfl, -, hla⟩ := hA.form
  obtain ⟨Ar, cr, rfl, -, hlr⟩ := hR.form
  have HS := hide (hst.ints hp h4)
  have HP := hide hp
  have c0 := hst.c0
  have c1 := hst.c1
  have c2 := hst.c2
  have c3 := hst.c3
  have c4 := hst.c4
  have c6 := hst.c6
  have c7 := hst.c7
  have hlt := hst.lt
  have hpp : ((p.length : Int) == (c.vars.length : Int)) = true := by rw [beq_iff_eq]; omega
  clear hst hcv hV hA hR hp hvl
  go_enter Try.func123, Try.ntmps123
  rw [HP.out]
  go_wp2_with fail
  refine wp_region_ext (by kernel_rfl) (by kernel_rfl) ?_
  iterate 8 (apply quiet_val; (focus rfl); (focus (intro w' hw'; have hk' := hw'.cells; go_simp; all_goals exact rfl)); simp only [Act.put, List.setIfInBounds_toArray, List.set_cons_succ, List.set_cons_zero])
  apply quiet_call; (focus rfl); (focus (intro w' hw'; go_simp; all_goals (first | exact rfl | (apply And.intro <;> exact rfl))))
  · exact fun w' hw' => Ret.quiet (satisfiesS_any _ _ c p n _ ⟨_, _, _, rfl, HV.out.ext hw', HA.out.ext hw', HR.out.ext hw'⟩ (HS.out.ext hw') HCV.out HST.out.val HP.out) hw'
  (simp only [Act.put, List.setIfInBounds_toArray, List.set_cons_succ, List.set_cons_zero])
  refine wpQuiet_nil ?_
  intro w1 hx1
  have HST1 := hide (HST.out.ext hx1)
  have HX1 := hide hx1
  have c6 := (hx1.cells _ _ hlt).trans c6
  have c7 := (hx1.cells _ _ hlt).trans c7
  have hlt := Nat.lt_of_lt_of_le hlt hx1.size
  clear hx1 c0 c1 c2 c3 c4
  cases hsat : satB c p with
  | false =>
    have HE := hide (show WkEnd c (.slice Av c.vars.length cv) (.slice Aa c.args.length ca) (.slice Ar c.rows.length cr) vd gx gs bs p (leftT (satB c) l [p]) W (.returned (.tuple #[])) w1 by
      refine ⟨rfl, ?_, HX1.out.keep _⟩
      have : leftT (satB c) l [p] = l := by unfold leftT; rw [List.foldl_cons, hsat]; rfl
      rw [this]; exact HST1.out)
    clear hsat
    go_wp2_with fail
    go_end0
    exact HE.out
  | true =>
    have HT := hide (show leftT (satB c) l [p] = orT l p by unfold leftT; rw [List.foldl_cons, hsat]; rfl)
    clear hsat
    obtain ⟨n0, hn0⟩ : ∃ n0, n0 = c.vars.length := ⟨_, rfl⟩
    have HN := hide hn0
    rw [← hn0] at c6 c7 h4 ⊢
    clear hn0
    go_wp2_with fail
    go_loopw [4] (fun i wr => ∃ k : Nat, i = .int .i64 k ∧ k ≤ n0 ∧ wr.rowIs gs 3 n0 (fun j => .int .i64 (orK l p k j)) ∧ Keep (fun j => j ≠ gs) w1 wr) (fun i _ => n0 - (intOf i).toNat)
    case atStart => exact ⟨0, rfl, by omega, by rw [HN.out]; exact HST1.out.rs.congr (fun j _ => by rw [orK_zero]), Keep.refl _ _⟩
    case round =>
      obtain ⟨k, rfl, hk, hrow, hkp⟩ := hrel
      have HROW := hide hrow
      have HKP := hide hkp
      have n1 := HST1.out.n1
      have n3 := HST1.out.n3
      have d6 := (hkp.cell (p := ⟨bs, 6, none⟩) hlt (fun e => n3 e.symm)).trans c6
      have d7 := (hkp.cell (p := ⟨bs, 7, none⟩) hlt (fun e => n3 e.symm)).trans c7
      have hltr := Nat.lt_of_lt_of_le hlt hkp.size
      by_cases hln : k < n0
      · have hkI : (k : Int) < n0 := by omega
        obtain ⟨fx, hrx, hfx⟩ := HST1.out.rx
        have hrx2 := hkp.row n1 hrx
        have fx0 := hrx2.cell (i := k) (by have := HN.out; omega)
        have hgx := hrx2.lt
        rw [hfx k (by have := HN.out; have := HP.out; omega)] at fx0
        obtain ⟨v, hv6, hve⟩ := HST1.out.val.at_ (i := k) (by have := HN.out; have := HP.out; omega)
        rw [hve] at fx0
        replace fx0 : wr.cell? ⟨gx, k, none⟩ = some (.int .i64 v) := fx0
        have fc := hrow.cell hln
        have hok : orK l p k k = at0 l k := by unfold orK; rw [if_neg (by omega)]
        rw [hok] at fc
        have hgs := hrow.lt
        have fz := hrow.frozen k
        have hdb := HST1.out.dom k (by rw [HST1.out.ll, ← HN.out]; exact hln)
        obtain ⟨d, hd⟩ : ∃ d, d = at0 l k := ⟨_, rfl⟩
        rw [← hd] at fc hdb
        have HDE := hide hd
        have HVE := hide hve
        have hpw := pow_bdW hv6
        have hv5 : v ≤ 5 := by omega
        clear hrow hkp hrx hrx2 hfx hve hd hok
        cases hh : hasB d v with
        | true =>
          have HO := hide (orV_has' hh)
          have HH := hide hh
          clear hh
          go_wp2
          refine wp_region_ext (by kernel_rfl) (by kernel_rfl) ?_
          iterate 14 (apply quiet_val; (focus rfl); (focus (intro w' hw'; have hk' := hw'.cells; go_simp; all_goals exact rfl)); simp only [Act.put, List.setIfInBounds_toArray, List.set_cons_succ, List.set_cons_zero])
          apply quiet_call; (focus rfl); (focus (intro w' hw'; go_simp; all_goals (first | exact rfl | (apply And.intro <;> exact rfl))))
          · exact fun w' hw' => same_quiet (domainHas_any d v w' hdb.1 (by omega) hv5) hw'
          (simp only [Act.put, List.setIfInBounds_toArray, List.set_cons_succ, List.set_cons_zero])
          (apply quiet_val; (focus rfl); (focus (intro w' hw'; have hk' := hw'.cells; go_simp; all_goals exact rfl)); simp only [Act.put, List.setIfInBounds_toArray, List.set_cons_succ, List.set_cons_zero])
          refine wpQuiet_nil ?_
          intro w2 hx2
          have HX2 := hide hx2
          clear hx2
          rw [HH.out]
          go_wp2
          go_roundw
          case rel =>
            refine ⟨k + 1, by go_num, by omega, (HX2.out.row HROW.out).congr (fun j hj => ?_), HKP.out.trans (HX2.out.keep _)⟩
            rw [← orK_step, HVE.out, ← HDE.out, HO.out]
            by_cases e : j = k
            · subst e; rw [if_pos rfl, orK, if_neg (by omega), ← HDE.out]
            · rw [if_neg e]
          case measure => simp [intOf]; omega
        | false =>
          have HO := hide (orV_no hh)
          have hob := orV_bd hdb.1 hdb.2 hv6
          rw [HO.out] at hob
          have kp : IntKind.i64.wrap (2 ^ v) = 2 ^ v := IntWalk.i64_in _ (by omega)
          have kq : IntKind.i64.wrap (d + 2 ^ v) = d + 2 ^ v := IntWalk.i64_in _ (by omega)
          have HH := hide hh
          clear hh
          go_wp2
          refine wp_region_ext (by kernel_rfl) (by kernel_rfl) ?_
          iterate 14 (apply quiet_val; (focus rfl); (focus (intro w' hw'; have hk' := hw'.cells; go_simp; all_goals exact rfl)); simp only [Act.put, List.setIfInBounds_toArray, List.set_cons_succ, List.set_cons_zero])
          apply quiet_call; (focus rfl); (focus (intro w' hw'; go_simp; all_goals (first | exact rfl | (apply And.intro <;> exact rfl))))
          · exact fun w' hw' => same_quiet (domainHas_any d v w' hdb.1 (by omega) hv5) hw'
          (simp only [Act.put, List.setIfInBounds_toArray, List.set_cons_succ, List.set_cons_zero])
          (apply quiet_val; (focus rfl); (focus (intro w' hw'; have hk' := hw'.cells; go_simp; all_goals exact rfl)); simp only [Act.put, List.setIfInBounds_toArray, List.set_cons_succ, List.set_cons_zero])
          refine wpQuiet_nil ?_
          intro w2 hx2
          have HX2 := hide hx2
          have d6 := (hx2.cells _ _ hltr).trans d6
          have d7 := (hx2.cells _ _ hltr).trans d7
          have hltr := Nat.lt_of_lt_of_le hltr hx2.size
          have fx0 := (hx2.cells _ _ hgx).trans fx0
          have hgx := Nat.lt_of_lt_of_le hgx hx2.size
          have fc := (hx2.cells _ _ hgs).trans fc
          have fz := (hx2.frz _ _ hgs).trans fz
          have hgs := Nat.lt_of_lt_of_le hgs hx2.size
          clear hx2
          rw [HH.out]
          go_wp2
          refine wp_region_ext_tail 22 (by kernel_rfl) (by kernel_rfl) ?_
          simp only [List.take_succ_cons, List.take_zero, List.drop_succ_cons, List.drop_zero]
          iterate 22 (apply quiet_val; (focus rfl); (focus (intro w' hw'; have hk' := hw'.cells; go_simp; all_goals exact rfl)); simp only [Act.put, List.setIfInBounds_toArray, List.set_cons_succ, List.set_cons_zero])
          refine wpQuiet_nil ?_
          intro w5 hx5
          have HX5 := hide (HX2.out.trans hx5)
          have fz := (hx5.frz _ _ hgs).trans fz
          have fc := (hx5.cells _ _ hgs).trans fc
          have hgs := Nat.lt_of_lt_of_le hgs hx5.size
          clear hx5
          try simp only [kp, kq]
          go_wp2
          go_roundw
          case rel =>
            refine ⟨k + 1, by go_num, by omega, ((HX5.out.row HROW.out).set k _).congr (fun j _ => ?_), (HKP.out.trans (HX5.out.keep _)).set (fun _ hh => hh rfl) _⟩
            rw [← orK_step, HVE.out, ← HDE.out, HO.out]
          case measure => simp [intOf]; omega
      · obtain rfl : k = n0 := by omega
        have hkI : ¬ ((k : Int) < k) := by omega
        have HE := hide (show WkEnd c (.slice Av c.vars.length cv) (.slice Aa c.args.length ca) (.slice Ar c.rows.length cr) vd gx gs bs p (leftT (satB c) l [p]) W (.returned (.tuple #[])) wr by
          refine ⟨rfl, ?_, (HX1.out.keep _).trans (HKP.out.mono (fun k _ hk => hk.2))⟩
          rw [HT.out]
          have hll : l.length = k := HST1.out.ll.trans HN.out.symm
          refine HST1.out.supp HKP.out ?_ (HST1.out.dom.orT HST1.out.val (by rw [HP.out, HST1.out.ll])) (by rw [orT_len, HST1.out.ll])
          rw [← HN.out]
          refine HROW.out.congr (fun j hj => ?_)
          rw [← hll, orK_all (by omega)])
        go_wp2
        go_end0
        exact HE.out
end Go.Proofs.Ytpnlambndbfenaa
