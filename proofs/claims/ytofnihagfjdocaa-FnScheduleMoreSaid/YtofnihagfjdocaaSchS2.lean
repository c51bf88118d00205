/- The walk of the reference's extend. -/
import Derived.Test.YtofnihagfjdocaaSchS
namespace Go.Proofs.Ytofnihagfjdocaa
open Go.RowKit

/-- How extend ends. -/
def ExtEnd (v : Value) (ts : List Tk) (c : Int) (g bs : Nat) (p : List Int) (o : Option (List Int)) (W : World) (e : Ending) (W' : World) : Prop :=
  e = .returned (.tuple #[]) ∧ SchSt v ts c g bs p o W' ∧ Keep (fun k => k ≠ g ∧ k ≠ bs) W W'
set_option maxRecDepth 100000 in
set_option maxHeartbeats 4000000 in
theorem extend_leaf (v : Value) (ts : List Tk) (c : Int) (g bs : Nat) (p : List Int) (o : Option (List Int)) (W : World) (hT : STasks W v ts) (hok : okTS ts p = true) (hob : ∀ b, o = some b → okTS ts b = true) (hst : SchSt v ts c g bs p o W) :
    Calls Try.prog 37 #[.pointer (some ⟨bs, 0, none⟩), .int .i64 p.length] W (ExtEnd v ts c g bs p (sstep ts c o p) W) := by
  have hT0 := hide hT
  have HOK := hide hok
  have HOB := hide hob
  have HBL := hide (show ∀ b, o = some b → b.length = ts.length from fun b h => (okTS_iff.1 (hob b h)).2.1)
  clear hob
  obtain ⟨g1, g2, g3⟩ := okTS_iff.1 hok
  obtain ⟨l1, l4⟩ := vTks_len g1
  obtain ⟨A, cp, rfl, -⟩ := hT.form
  have HST := hide hst
  have HS := hide (hst.ints g2 (by omega))
  have c0 := hst.c0
  have c1 := hst.c1
  have c2 := hst.c2
  have hlt := hst.lt
  have HG := hide g2
  clear hT hok g1 g2 g3 hst
  go_enter Try.func37, Try.ntmps37
  rw [HG.out]
  go_wp2_with fail
  refine wp_region_ext_tail 8 (by kernel_rfl) (by kernel_rfl) ?_
  simp only [List.take_succ_cons, List.take_zero, List.drop_succ_cons, List.drop_zero]
  iterate 8 (apply quiet_val; (focus rfl); (focus (intro w' hw'; have hk' := hw'.cells; go_simp; all_goals exact rfl)); simp only [Act.put, List.setIfInBounds_toArray, List.set_cons_succ, List.set_cons_zero])
  refine wpQuiet_nil ?_
  intro w1 hx1
  have HX1 := hide hx1
  clear hx1
  go_wp2_with fail
  refine (usageS_any _ _ ts p _ (hT0.out.ext HX1.out) (HS.out.ext HX1.out) HOK.out).mono ?_
  rintro e w2 ⟨bu, hbu, rfl, hru, hxu⟩
  have HU := hide (SInts.of_row hru (by rw [usL_len]; omega) (usL_i64 HOK.out))
  have HX2 := hide (HX1.out.trans hxu)
  have HUL := hide (usL_len ts p)
  have hul : (usL ts p).length ≤ 11 := by rw [usL_len]; omega
  have c0 := (HX2.out.cells _ _ hlt).trans c0
  have c1 := (HX2.out.cells _ _ hlt).trans c1
  have c2 := (HX2.out.cells _ _ hlt).trans c2
  have hlt := Nat.lt_of_lt_of_le hlt HX2.out.size
  clear hru hxu hbu
  go_wp2_with fail
  go_loopw [5] (fun i wr => ∃ k : Nat, k ≤ (usL ts p).length ∧ i = .int .i64 k ∧ Ext w2 wr ∧ ∀ t, t < k → at0 (usL ts p) t ≤ c) (fun i _ => (usL ts p).length - (intOf i).toNat)
  case atStart => exact ⟨0, Nat.zero_le _, rfl, Ext.refl w2, fun t ht => by omega⟩
  case round =>
    obtain ⟨k, hk, rfl, hxr, hle⟩ := hrel
    have HLE := hide hle
    have HXR := hide hxr
    have d0 := (hxr.cells _ _ hlt).trans c0
    have d1 := (hxr.cells _ _ hlt).trans c1
    have d2 := (hxr.cells _ _ hlt).trans c2
    have hltr := Nat.lt_of_lt_of_le hlt hxr.size
    clear hle hxr
    by_cases hlk : k < (usL ts p).length
    · have u0 : wr.cell? ⟨bu, k, none⟩ = some (.int .i64 (at0 (usL ts p) k)) := by have h := (HU.out.ext HXR.out).cell_ hlk; rwa [Nat.zero_add] at h
      have hbuW : bu < wr.heap.size := by
        obtain ⟨b', o', e, hb, -⟩ := (HU.out.ext HXR.out).at_ hlk
        injection e with e; injection e with e1 e2; subst e1; exact hb
      have hkI : (k : Int) < (usL ts p).length := by omega
      by_cases hgt : c < at0 (usL ts p) k
      · have HGT := hide hgt
        have hdec : decide (c < at0 (usL ts p) k) = true := decide_eq_true hgt
        go_wp2_with fail
        refine wp_region_ext (by kernel_rfl) (by kernel_rfl) ?_
        iterate 9 (apply quiet_val; (focus rfl); (focus (intro w' hw'; have hk' := hw'.cells; go_simp; all_goals exact rfl)); simp only [Act.put, List.setIfInBounds_toArray, List.set_cons_succ, List.set_cons_zero])
        refine wpQuiet_nil ?_
        intro w5 hx5
        have HX5 := hide (HX2.out.trans (HXR.out.trans hx5))
        have HX25 := hide (HXR.out.trans hx5)
        clear hx5
        have hno : sstep ts c o p = o := by
          rw [sstep, if_neg]
          intro hf
          have h1 := feas_iff.1 hf k (by omega)
          have h2 := HGT.out
          rw [usL_at _ _ (by omega)] at h2
          omega
        have HE := hide (show ExtEnd (.slice A ts.length cp) ts c g bs p (sstep ts c o p) W (.returned (.tuple #[])) w5 by rw [hno]; exact ⟨rfl, HST.out.ext HX5.out, HX5.out.keep _⟩)
        clear hno
        go_wp2_with fail
        go_end0
        exact HE.out
      · have HGT := hide hgt
        have hdec : decide (c < at0 (usL ts p) k) = false := decide_eq_false hgt
        go_wp2_with fail
        refine wp_region_ext (by kernel_rfl) (by kernel_rfl) ?_
        iterate 9 (apply quiet_val; (focus rfl); (focus (intro w' hw'; have hk' := hw'.cells; go_simp; all_goals exact rfl)); simp only [Act.put, List.setIfInBounds_toArray, List.set_cons_succ, List.set_cons_zero])
        refine wpQuiet_nil ?_
        intro w5 hx5
        have HX5 := hide (HX2.out.trans (HXR.out.trans hx5))
        have HX25 := hide (HXR.out.trans hx5)
        clear hx5
        go_wp2_with fail
        go_roundw
        case rel => exact ⟨k + 1, by omega, by go_num, HX25.out, fun t ht => by
          by_cases e : t = k
          · subst e; have := HGT.out; omega
          · exact HLE.out t (by omega)⟩
        case measure => simp [intOf]; omega
    · obtain rfl : k = (usL ts p).length := by omega
      have hf : feas ts c p = true := feas_iff.2 fun t ht => by
        have := HLE.out t (by rw [HUL.out]; exact ht)
        rwa [usL_at _ _ ht] at this
      have HF := hide hf
      have HSTR := hide (HST.out.ext (HX2.out.trans HXR.out))
      have hTr := hide (hT0.out.ext (HX2.out.trans HXR.out))
      have HSR := hide (HS.out.ext (HX2.out.trans HXR.out))
      have hW := hide (HX2.out.trans HXR.out)
      obtain ⟨out, o1, o2⟩ := HSTR.out.c3
      have z3 := HSTR.out.z3
      have HNE := hide HSTR.out.ne
      clear hf
      cases o with
      | none =>
        have o2 : out = .slice none 0 0 := o2
        subst o2
        have hst : sstep ts c none p = some p := by rw [sstep, if_pos HF.out]; rfl
        have HSTEP := hide hst
        clear hst
        go_wp2_with fail
        refine wp_region_ext (by kernel_rfl) (by kernel_rfl) ?_
        iterate 7 (apply quiet_val; (focus rfl); (focus (intro w' hw'; have hk' := hw'.cells; go_simp; all_goals exact rfl)); simp only [Act.put, List.setIfInBounds_toArray, List.set_cons_succ, List.set_cons_zero])
        iterate 19 go_big_quiet_skip
        (apply quiet_val; (focus rfl); (focus (intro w' hw'; have hk' := hw'.cells; go_simp; all_goals exact rfl)); simp only [Act.put, List.setIfInBounds_toArray, List.set_cons_succ, List.set_cons_zero])
        refine wpQuiet_nil ?_
        intro w5 hx5
        have HX5 := hide (hW.out.trans hx5)
        have d2 := (hx5.cells _ _ hltr).trans d2
        have HS5 := hide (HSR.out.ext hx5)
        have HST5 := hide (HSTR.out.ext hx5)
        clear hx5 o1 z3
        go_wp2_with fail
        refine (copyInts_any _ p _ (HG.out ▸ HS5.out) (by have := HG.out; omega)).mono ?_
        rintro e w6 ⟨A6, c6, b6, m6, f6, rfl, hc6, hd6, hb6, ho6, hx6⟩
        obtain ⟨rfl, hr6, hm6, hf6⟩ := ho6 (by have := HG.out; omega)
        have hS6 := SInts.own hc6 hd6 (fun _ => ⟨rfl, hr6, hm6, hf6⟩) (fun i hi => HS5.out.i64 hi)
        have hst6 := HST5.out.ext hx6
        have h3 := (HST5.out.row.elim fun f h => h.1.lt)
        have hE := hide (show ExtEnd (.slice A ts.length cp) ts c g bs p (sstep ts c none p) W (.returned (.tuple #[])) (w6.setCell ⟨bs, 3, none⟩ (.slice (some ⟨b6, 0, none⟩) p.length c6)) by
          rw [HSTEP.out]
          exact ⟨rfl, hst6.best hS6 (by omega) (by have := HST5.out.lt; omega), ((HX5.out.trans hx6).keep _).set (fun _ hh => hh.2 rfl) _⟩)
        obtain ⟨out6, q3, q4⟩ := hst6.c3
        have z6 := hst6.z3
        have hl6 := hst6.lt
        obtain rfl : out6 = .slice none 0 0 := q4
        clear hr6 hm6 hf6 hS6 hst6 hd6 hb6 hx6 h3 d0 d1 d2
        go_wp2_with fail
        go_end0
        exact hE.out
      | some b =>
        obtain ⟨bb, off, cb, rfl, hSb, hb1, hb2⟩ := o2
        have HSb := hide hSb
        have hbp : 0 < b.length := by have := HBL.out b rfl; omega
        have hbne : ((b.length : Int) == 0) = false := by rw [beq_eq_false_iff_ne]; omega
        have HOKB := hide (HOB.out b rfl)
        have Hb1 := hide hb1
        have Hb2 := hide hb2
        clear hSb hb1 hb2
        by_cases hlt2 : mk ts p ts.length < mk ts b ts.length
        · have hdec : decide (mk ts p ts.length < mk ts b ts.length) = true := decide_eq_true hlt2
          have hst : sstep ts c (some b) p = some p := by rw [sstep, if_pos HF.out, bstep, if_pos hlt2]
          have HSTEP := hide hst
          clear hst hlt2
          go_wp2_with fail
          refine wp_region_ext (by kernel_rfl) (by kernel_rfl) ?_
          iterate 7 (apply quiet_val; (focus rfl); (focus (intro w' hw'; have hk' := hw'.cells; go_simp; all_goals exact rfl)); simp only [Act.put, List.setIfInBounds_toArray, List.set_cons_succ, List.set_cons_zero])
          iterate 8 (go_big_quiet_want; apply quietK_val; (focus (intro w' hw'; have hk' := hw'.cells; go_simp; all_goals exact rfl)); simp only [Act.put, List.setIfInBounds_toArray, List.set_cons_succ, List.set_cons_zero]; go_big_quiet_on)
          go_big_quiet_want; apply quietK_call; (focus (intro w' hw'; go_simp; all_goals (first | exact rfl | (apply And.intro <;> exact rfl))))
          · exact fun w' hw' => Ret.quiet (makespanS_any _ _ ts p _ (hTr.out.ext hw') (HSR.out.ext hw') HOK.out) hw'
          (simp only [Act.put, List.setIfInBounds_toArray, List.set_cons_succ, List.set_cons_zero]; go_big_quiet_on)
          iterate 8 (go_big_quiet_want; apply quietK_val; (focus (intro w' hw'; have hk' := hw'.cells; go_simp; all_goals exact rfl)); simp only [Act.put, List.setIfInBounds_toArray, List.set_cons_succ, List.set_cons_zero]; go_big_quiet_on)
          go_big_quiet_want; apply quietK_call; (focus (intro w' hw'; go_simp; all_goals (first | exact rfl | (apply And.intro <;> exact rfl))))
          · exact fun w' hw' => Ret.quiet (makespanS_any _ _ ts b _ (hTr.out.ext hw') (HSb.out.ext hw') HOKB.out) hw'
          (simp only [Act.put, List.setIfInBounds_toArray, List.set_cons_succ, List.set_cons_zero]; go_big_quiet_on)
          (go_big_quiet_want; apply quietK_val; (focus (intro w' hw'; have hk' := hw'.cells; go_simp; all_goals exact rfl)); simp only [Act.put, List.setIfInBounds_toArray, List.set_cons_succ, List.set_cons_zero]; go_big_quiet_on)
          (apply quiet_val; (focus rfl); (focus (intro w' hw'; have hk' := hw'.cells; go_simp; all_goals exact rfl)); simp only [Act.put, List.setIfInBounds_toArray, List.set_cons_succ, List.set_cons_zero])
          refine wpQuiet_nil ?_
          intro w5 hx5
          have HX5 := hide (hW.out.trans hx5)
          have d2 := (hx5.cells _ _ hltr).trans d2
          have HS5 := hide (HSR.out.ext hx5)
          have HST5 := hide (HSTR.out.ext hx5)
          clear hx5 o1 z3
          go_wp2_with fail
          refine (copyInts_any _ p _ (HG.out ▸ HS5.out) (by have := HG.out; omega)).mono ?_
          rintro e w6 ⟨A6, c6, b6, m6, f6, rfl, hc6, hd6, hb6, ho6, hx6⟩
          obtain ⟨rfl, hr6, hm6, hf6⟩ := ho6 (by have := HG.out; omega)
          have hS6 := SInts.own hc6 hd6 (fun _ => ⟨rfl, hr6, hm6, hf6⟩) (fun i hi => HS5.out.i64 hi)
          have hst6 := HST5.out.ext hx6
          have h3 := (HST5.out.row.elim fun f h => h.1.lt)
          have hE := hide (show ExtEnd (.slice A ts.length cp) ts c g bs p (sstep ts c (some b) p) W (.returned (.tuple #[])) (w6.setCell ⟨bs, 3, none⟩ (.slice (some ⟨b6, 0, none⟩) p.length c6)) by
            rw [HSTEP.out]
            exact ⟨rfl, hst6.best hS6 (by omega) (by have := HST5.out.lt; omega), ((HX5.out.trans hx6).keep _).set (fun _ hh => hh.2 rfl) _⟩)
          obtain ⟨out6, q3, q4⟩ := hst6.c3
          have z6 := hst6.z3
          have hl6 := hst6.lt
          obtain ⟨bb6, off6, cb6, rfl, -⟩ := q4
          clear hr6 hm6 hf6 hS6 hst6 hd6 hb6 hx6 h3 d0 d1 d2
          go_wp2_with fail
          go_end0
          exact hE.out
        · have hdec : decide (mk ts p ts.length < mk ts b ts.length) = false := decide_eq_false hlt2
          have hst : sstep ts c (some b) p = some b := by rw [sstep, if_pos HF.out, bstep, if_neg hlt2]
          have HSTEP := hide hst
          clear hst hlt2
          go_wp2_with fail
          refine wp_region_ext (by kernel_rfl) (by kernel_rfl) ?_
          iterate 7 (apply quiet_val; (focus rfl); (focus (intro w' hw'; have hk' := hw'.cells; go_simp; all_goals exact rfl)); simp only [Act.put, List.setIfInBounds_toArray, List.set_cons_succ, List.set_cons_zero])
          iterate 8 (go_big_quiet_want; apply quietK_val; (focus (intro w' hw'; have hk' := hw'.cells; go_simp; all_goals exact rfl)); simp only [Act.put, List.setIfInBounds_toArray, List.set_cons_succ, List.set_cons_zero]; go_big_quiet_on)
          go_big_quiet_want; apply quietK_call; (focus (intro w' hw'; go_simp; all_goals (first | exact rfl | (apply And.intro <;> exact rfl))))
          · exact fun w' hw' => Ret.quiet (makespanS_any _ _ ts p _ (hTr.out.ext hw') (HSR.out.ext hw') HOK.out) hw'
          (simp only [Act.put, List.setIfInBounds_toArray, List.set_cons_succ, List.set_cons_zero]; go_big_quiet_on)
          iterate 8 (go_big_quiet_want; apply quietK_val; (focus (intro w' hw'; have hk' := hw'.cells; go_simp; all_goals exact rfl)); simp only [Act.put, List.setIfInBounds_toArray, List.set_cons_succ, List.set_cons_zero]; go_big_quiet_on)
          go_big_quiet_want; apply quietK_call; (focus (intro w' hw'; go_simp; all_goals (first | exact rfl | (apply And.intro <;> exact rfl))))
          · exact fun w' hw' => Ret.quiet (makespanS_any _ _ ts b _ (hTr.out.ext hw') (HSb.out.ext hw') HOKB.out) hw'
          (simp only [Act.put, List.setIfInBounds_toArray, List.set_cons_succ, List.set_cons_zero]; go_big_quiet_on)
          (go_big_quiet_want; apply quietK_val; (focus (intro w' hw'; have hk' := hw'.cells; go_simp; all_goals exact rfl)); simp only [Act.put, List.setIfInBounds_toArray, List.set_cons_succ, List.set_cons_zero]; go_big_quiet_on)
          (apply quiet_val; (focus rfl); (focus (intro w' hw'; have hk' := hw'.cells; go_simp; all_goals exact rfl)); simp only [Act.put, List.setIfInBounds_toArray, List.set_cons_succ, List.set_cons_zero])
          refine wpQuiet_nil ?_
          intro w5 hx5
          have hE := hide (show ExtEnd (.slice A ts.length cp) ts c g bs p (sstep ts c (some b) p) W (.returned (.tuple #[])) w5 by
            rw [HSTEP.out]; exact ⟨rfl, HSTR.out.ext hx5, (hW.out.trans hx5).keep _⟩)
          clear hx5 o1 z3
          go_wp2_with fail
          go_end0
          exact hE.out
end Go.Proofs.Ytofnihagfjdocaa
