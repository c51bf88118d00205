/- The walk of the reference's extend. -/
import Derived.Test.YticallgbmmahjaaSchS
namespace Go.Proofs.Yticallgbmmahjaa
open Go.RowKit

/-- How extend ends. -/
def ExtEnd (v : Value) (ts : List Tk) (c : Int) (g bs : Nat) (p : List Int) (o : Option (List Int)) (W : World) (e : Ending) (W' : World) : Prop :=
  e = .returned (.tuple #[]) ∧ SchSt v ts c g bs p o W' ∧ Keep (fun k => k ≠ g ∧ k ≠ bs) W W'
set_option maxRecDepth 100000 in
set_option maxHeartbeats 4000000 in
theorem extend_leaf (v : Value) (ts : List Tk) (c : Int) (g bs : Nat) (p : List Int) (o : Option (List Int)) (W : World) (hT : STasks W v ts) (hok : okTS ts p = true) (hob : ∀ b, o = some b → okTS ts b = true) (hst : SchSt v ts c g bs p o W) :
    Calls Try.prog 37 #[.pointer (some ⟨bs, 0, none⟩), .int .i64 p.length] W (ExtEnd v ts c g bs p (sstep ts c o p) W) := by
  have hT0 := hide hT
  have HOK := hide hok
  have HOB := hide hob
  have HBL := hide (show ∀ b, o = some b → b.length = ts.length from fun b h => (okTS_iff.1 (hob b h)).2.1)
  clear hob
  obtain ⟨g1, g2, g3⟩ := okTS_iff.1 hok
  obtain ⟨l1, l4⟩ := vTks_len g1
  obtain ⟨A, cp, rfl, -⟩ := hT.form
  have HST := hide hst
  have HS := hide (hst.ints g2 (by omega))
  have c0 := hst.c0
  have c1 := hst.c1
  have c2 := hst.c2
  have hlt := hst.lt
  have HG := hide g2
  clear hT hok g1 g2 g3 hst
  go_enter Try.func37, Try.ntmps37
  rw [HG.out]
  go_wp2_with fail
  refine wp_region_ext_tail 8 (by kernel_rfl) (by kernel_rfl) ?_
  simp only [List.take_succ_cons, List.take_zero, List.drop_succ_cons, List.drop_zero]
  iterate 8 (apply quiet_val; (focus rfl); (focus (intro w' hw'; have hk' := hw'.cells; go_simp; all_goals exact rfl)); simp only [Act.put, List.setIfInBounds_toArray, List.set_cons_succ, List.set_cons_zero])
  refine wpQuiet_nil ?_
  intro w1 hx1
  have HX1 := hide hx1
  clear hx1
  go_wp2_with fail
  refine (usageS_any _ _ ts p _ (hT0.out.ext HX1.out) (HS.out.ext HX1.out) HOK.out).mono ?_
  rintro e w2 ⟨bu, hbu, rfl, hru, hxu⟩
  have HU := hide (SInts.of_row hru (by rw [usL_len]; omega) (usL_i64 HOK.out))
  have HX2 := hide (HX1.out.trans hxu)
  have HUL := hide (usL_len ts p)
  have hul : (usL ts p).length ≤ 11 := by rw [usL_len]; omega
  have c0 := (HX2.out.cells _ _ hlt).trans c0
  have c1 := (HX2.out.cells _ _ hlt).trans c1
  have c2 := (HX2.out.cells _ _ hlt).trans c2
  have hlt := Nat.lt_of_lt_of_le hlt HX2.out.size
  clear hru hxu hbu
  go_wp2_with fail
  go_loopw [5] (fun i wr => ∃ k : Nat, k ≤ (usL ts p).length ∧ i = .int .i64 k ∧ Ext w2 wr ∧ ∀ t, t < k → at0 (usL ts p) t ≤ c) (fun i _ => (usL ts p).length - (intOf i).toNat)
  case atStart => exact ⟨0, Nat.zero_le _, rfl, Ext.refl w2, fun t ht => by omega⟩
  case round =>
    obtain ⟨k, hk, rfl, hxr, hle⟩ := hrel
    have HLE := hide hle
    have HXR := hide hxr
    have d0 := (hxr.cells _ _ hlt).trans c0
    have d1 := (hxr.cells _ _ hlt).trans c1
    have d2 := (hxr.cells _ _ hlt).trans c2
    have hltr := Nat.lt_of_lt_of_le hlt hxr.size
    clear hle hxr
    by_cases hlk : k < (usL ts p).length
    · have u0 : wr.cell? ⟨bu, k, none⟩ = some (.int .i64 (at0 (usL ts p) k)) := by have h := (HU.out.ext HXR.out).cell_ hlk; rwa [Nat.zero_add] at h
      have hbuW : bu < wr.heap.size := by
        obtain ⟨b', o', e, hb, -⟩ := (HU.out.ext HXR.out).at_ hlk
        injection e with e; injection e with e1 e2; subst e1; exact hb
      have hkI : (k : Int) < (usL ts p).length := by omega
      by_cases hgt : c < at0 (usL ts p) k
      · have HGT := hide hgt
        have hdec : decide (c < at0 (usL ts p) k) = true := decide_eq_true hgt
        go_wp2_with fail
        refine wp_region_ext (by kernel_rfl) (by kernel_rfl) ?_
        iterate 9 (apply quiet_val; (focus rfl); (focus (intro w' hw'; have hk' := hw'.cells; go_simp; all_goals exact rfl)); simp only [Act.put, List.setIfInBounds_toArray, List.set_cons_succ, List.set_cons_zero])
        refine wpQuiet_nil ?_
        intro w5 hx5
        have HX5 := hide (HX2.out.trans (HXR.out.trans hx5))
        have HX25 := hide (HXR.out.trans hx5)
        clear hx5
        have hno : sstep ts c o p = o := by
          rw [sstep, if_neg]
          intro hf
          have h1 := feas_iff.1 hf k (by omega)
          have h2 := HGT.out
          rw [usL_at _ _ (by omega)] at h2
          omega
        have HE := hide (show ExtEnd (.slice A ts.length cp) ts c g bs p (sstep ts c o p) W (.returned (.tuple #[])) w5 by rw [hno]; exact ⟨rfl, HST.out.ext HX5.out, HX5.out.keep _⟩)
        clear hno
        go_wp2_with fail
        go_end0
        exact HE.out
      · have HGT := hide hgt
        have hdec : decide (c < at0 (usL ts p) k) = false := decide_eq_false hgt
        go_wp2_with fail
        refine wp_region_ext (by kernel_rfl) (by kernel_rfl) ?_
        iterate 9 (apply quiet_val; (focus rfl); (focus (intro w' hw'; have hk' := hw'.cells; go_simp; all_goals exact rfl)); simp only [Act.put, List.setIfInBounds_toArray, List.set_cons_succ, List.set_cons_zero])
        refine wpQuiet_nil ?_
        intro w5 hx5
        have HX5 := hide (HX2.out.trans (HXR.out.trans hx5))
        have HX25 := hide (HXR.out.trans hx5)
        clear hx5
        go_wp2_with fail
        go_roundw
        case rel => exact ⟨k + 1, by omega, by go_num, HX25.out, fun t ht => by
          by_cases e : t = k
          · subst e; have := HGT.out; omega
          · exact HLE.out t (by omega)⟩
        case measure => simp [intOf]; omega
    · obtain rfl : k = (usL ts p).length := by omega
      have hf : feas ts c p = true := feas_iff.2 fun t ht => by
        have := HLE.out t (by rw [HUL.out]; exact ht)
        rwa [usL_at _ _ ht] at this
      have HF := hide hf
      have HSTR := hide (HST.out.ext (HX2.out.trans HXR.out))
      have hTr := hide (hT0.out.ext (HX2.out.trans HXR.out))
      have HSR := hide (HS.out.ext (HX2.out.trans HXR.out))
      have hW := hide (HX2.out.trans HXR.out)
      obtain ⟨out, o1, o2⟩ := HSTR.out.c3
      have z3 := HSTR.out.z3
      have HNE := hide HSTR.out.ne
      clear hf
      cases o with
      | none =>
        have o2 : out = .slice none 0 0 := o2
        subst o2
        have hst : sstep ts c none p = some p := by rw [sstep, if_pos HF.out]; rfl
        have HSTEP := hide hst
        clear hst
        go_wp2_with fail
        refine wp_region_ext (by kernel_rfl) (by kernel_rfl) ?_
        iterate 7 (apply quiet_val; (focus rfl); (focus (intro w' hw'; have hk' := hw'.cells; go_simp; all_goals exact rfl)); simp only [Act.put, List.setIfInBounds_toArray, List.set_cons_succ, List.set_cons_zero])
        iterate 19 go_big_quiet_skip
        (apply quiet_val; (focus rfl); (focus (intro w' hw'; have hk' := hw'.cells; go_simp; all_goals exact rfl)); simp only [Act.put, List.setIfInBounds_toArray, List.set_cons_succ, List.set_cons_zero])
        refine wpQuiet_nil ?_
        intro w5 hx5
        have HX5 := hide (hW.out.trans hx5)
        have d2 := (hx5.cells _ _ hltr).trans d2
        have HS5 := hide (HSR.out.ext hx5)
        have HST5 := hide (HSTR.out.ext hx5)
        clear hx5 o1 z3
        go_wp2_with fail
        refine (copyInts_any _ p _ (HG.out ▸ HS5.out) (by have := HG.out; omega)).mono ?_
        rintro e w6 ⟨A6, c6, b6, m6, f6, rfl, hc6, hd6, hb6, ho6, hx6⟩
        obtain ⟨rfl, hr6, hm6, hf6⟩ := ho6 (by have := HG.out; omega)
        have hS6 := SInts.own hc6 hd6 (fun _ => ⟨rfl, hr6, hm6, hf6⟩) (fun i hi => HS5.out.i64 hi)
        have hst6 := HST5.out.ext hx6
        have h3 := (HST5.out.row.elim fun f h => h.1.lt)
        have hE := hide (show ExtEnd (.slice A ts.length cp) ts c g bs p (sstep ts c none p) W (.returned (.tuple #[])) (w6.setCell ⟨bs, 3, none⟩ (.slice (some ⟨b6, 0, none⟩) p.length c6)) by
          rw [HSTEP.out]
          exact ⟨rfl, hst6.best hS6 (by omega) (by have := HST5.out.lt; omega), ((HX5.out.trans hx6).keep _).set (fun _ hh => hh.2 rfl) _⟩)
        obtain ⟨out6, q3, q4⟩ := hst6.c3
        have z6 := hst6.z3
        have hl6 := hst6.lt
        obtain rfl : out6 = .slice none 0 0 := q4
        clear hr6 hm6 hf6 hS6 hst6 hd6 hb6 hx6 h3 d0 d1 d2
        go_wp2_with fail
        go_end0
        exact hE.out
      | some b =>
        obtain ⟨bb, off, cb, rfl, hSb, hb1, hb2⟩ := o2
        have HSb := hide hSb
        have hbp : 0 < b.length := by have := HBL.out b rfl; omega
        have hbne : ((b.length : Int) == 0) = false := by rw [beq_eq_false_iff_ne]; omega
        have HOKB := hide (HOB.out b rfl)
        have Hb1 := hide hb1
        have Hb2 := hide hb2
        clear hSb hb1 hb2
        by_cases hlt2 : mk ts p ts.length < mk ts b ts.length
        · have hdec : decide (mk ts p ts.length < mk ts b ts.length) = true := decide_eq_true hlt2
          have hst : sstep ts c (some b) p = some p := by rw [sstep, if_pos HF.out, bstep, if_pos hlt2]
          have HSTEP := hide hst
          clear hst hlt2
          go_wp2_with fail
          refine wp_region_ext (by kernel_rfl) (by kernel_rfl) ?_
          iterate 7 (apply quiet_val; (focus rfl); (focus (intro w' hw'; have hk' := hw'.cells; go_simp; all_goals exact rfl)); simp only [Act.put, List.setIfInBounds_toArray, List.set_cons_succ, List.set_cons_zero])
          iterate 8 (go_big_quiet_want; apply quietK_val; (focus (intro w' hw'; have hk' := hw'.cells; go_simp; all_goals exact rfl)); simp only [Act.put, List.setIfInBounds_toArray, List.set_cons_succ, List.set_cons_zero]; go_big_quiet_on)
          go_big_quiet_want; apply quietK_call; (focus (intro w' hw'; go_simp; all_goals (first | exact rfl | (apply And.intro <;> exact rfl))))
          · exact fun w' hw' => Ret.quiet (makespanS_any _ _ ts p _ (hTr.out.ext hw') (HSR.out.ext hw') HOK.out) hw'
          (simp only [Act.put, List.setIfInBounds_toArray, List.set_cons_succ, List.set_cons_zero]; go_big_quiet_on)
          iterate 8 (go_big_quiet_want; apply quietK_val; (focus (intro w' hw'; have hk' := hw'.cells; go_simp; all_goals exact rfl)); simp only [Act.put, List.setIfInBounds_toArray, List.set_cons_succ, List.set_cons_zero]; go_big_quiet_on)
          go_big_quiet_want; apply quietK_call; (focus (intro w' hw'; go_simp; all_goals (first | exact rfl | (apply And.intro <;> exact rfl))))
          · exact fun w' hw' => Ret.quiet (makespanS_any _ _ ts b _ (hTr.out.ext hw') (HSb.out.ext hw') HOKB.out) hw'
          (simp only [Act.put, List.setIfInBounds_toArray, List.set_cons_succ, List.set_cons_zero]; go_big_quiet_on)
          (go_big_quiet_want; apply quietK_val; (focus (intro w' hw'; have hk' := hw'.cells; go_simp; all_goals exact rfl)); simp only [Act.put, List.setIfInBounds_toArray, List.set_cons_succ, List.set_cons_zero]; go_big_quiet_on)
          (apply quiet_val; (focus rfl); (focus (intro w' hw'; have hk' := hw'.cells; go_simp; all_goals exact rfl)); simp only [Act.put, List.setIfInBounds_toArray, List.set_cons_succ, List.set_cons_zero])
          refine wpQuiet_nil ?_
          intro w5 hx5
          have HX5 := hide (hW.out.trans hx5)
          have d2 := (hx5.cells _ _ hltr).trans d2
          have HS5 := hide (HSR.out.ext hx5)
          have HST5 := hide (HSTR.out.ext hx5)
          clear hx5 o1 z3
          go_wp2_with fail
          refine (copyInts_any _ p _ (HG.out ▸ HS5.out) (by have := HG.out; omega)).mono ?_
          rintro e w6 ⟨A6, c6, b6, m6, f6, rfl, hc6, hd6, hb6, ho6, hx6⟩
          obtain ⟨rfl, hr6, hm6, hf6⟩ := ho6 (by have := HG.out; omega)
          have hS6 := SInts.own hc6 hd6 (fun _ => ⟨rfl, hr6, hm6, hf6⟩) (fun i hi => HS5.out.i64 hi)
          have hst6 := HST5.out.ext hx6
          have h3 := (HST5.out.row.elim fun f h => h.1.lt)
          have hE := hide (show ExtEnd (.slice A ts.length cp) ts c g bs p (sstep ts c (some b) p) W (.returned (.tuple #[])) (w6.setCell ⟨bs, 3, none⟩ (.slice (some ⟨b6, 0, none⟩) p.length c6)) by
            rw [HSTEP.out]
            exact ⟨rfl, hst6.best hS6 (by omega) (by have := HST5.out.lt; omega), ((HX5.out.trans hx6).keep _).set (fun _ hh => hh.2 rfl) _⟩)
          obtain ⟨out6, q3, q4⟩ := hst6.c3
          have z6 := hst6.z3
          have hl6 := hst6.lt
          obtain ⟨bb6, off6, cb6, rfl, -⟩ := q4
          clear hr6 hm6 hf6 hS6 hst6 hd6 hb6 hx6 h3 d0 d1 d2
          go_wp2_with fail
          go_end0
          exact hE.out
        · have hdec : decide (mk ts p ts.length < mk ts b ts.length) = false := decide_eq_false hlt2
          have hst : sstep ts c (some b) p = some b := by rw [sstep, if_pos HF.out, bstep, if_neg hlt2]
          have HSTEP := hide hst
          clear hst hlt2
          go_wp2_with fail
          refine wp_region_ext (by kernel_rfl) (by kernel_rfl) ?_
          iterate 7 (apply quiet_val; (focus rfl); (focus (intro w' hw'; have hk' := hw'.cells; go_simp; all_goals exact rfl)); simp only [Act.put, List.setIfInBounds_toArray, List.set_cons_succ, List.set_cons_zero])
          iterate 8 (go_big_quiet_want; apply quietK_val; (focus (intro w' hw'; have hk' := hw'.cells; go_simp; all_goals exact rfl)); simp only [Act.put, List.setIfInBounds_toArray, List.set_cons_succ, List.set_cons_zero]; go_big_quiet_on)
          go_big_quiet_want; apply quietK_call; (focus (intro w' hw'; go_simp; all_goals (first | exact rfl | (apply And.intro <;> exact rfl))))
          · exact fun w' hw' => Ret.quiet (makespanS_any _ _ ts p _ (hTr.out.ext hw') (HSR.out.ext hw') HOK.out) hw'
          (simp only [Act.put, List.setIfInBounds_toArray, List.set_cons_succ, List.set_cons_zero]; go_big_quiet_on)
          iterate 8 (go_big_quiet_want; apply quietK_val; (focus (intro w' hw'; have hk' := hw'.cells; go_simp; all_goals exact rfl)); simp only [Act.put, List.setIfInBounds_toArray, List.set_cons_succ, List.set_cons_zero]; go_big_quiet_on)
          go_big_quiet_want; apply quietK_call; (focus (intro w' hw'; go_simp; all_goals (first | exact rfl | (apply And.intro <;> exact rfl))))
          · exact fun w' hw' => Ret.quiet (makespanS_any _ _ ts b _ (hTr.out.ext hw') (HSb.out.ext hw') HOKB.out) hw'
          (simp only [Act.put, List.setIfInBounds_toArray, List.set_cons_succ, List.set_cons_zero]; go_big_quiet_on)
          (go_big_quiet_want; apply quietK_val; (focus (intro w' hw'; have hk' := hw'.cells; go_simp; all_goals exact rfl)); simp only [Act.put, List.setIfInBounds_toArray, List.set_cons_succ, List.set_cons_zero]; go_big_quiet_on)
          (apply quiet_val; (focus rfl); (focus (intro w' hw'; have hk' := hw'.cells; go_simp; all_goals exact rfl)); simp only [Act.put, List.setIfInBounds_toArray, List.set_cons_succ, List.set_cons_zero])
          refine wpQuiet_nil ?_
          intro w5 hx5
          have hE := hide (show ExtEnd (.slice A ts.length cp) ts c g bs p (sstep ts c (some b) p) W (.returned (.tuple #[])) w5 by
            rw [HSTEP.out]; exact ⟨rfl, HSTR.out.ext hx5, (hW.out.trans hx5).keep _⟩)
          clear hx5 o1 z3
          go_wp2_with fail
          go_end0
          exact hE.out
end Go.Proofs.Yticallgbmmahjaa
/- The walk of Schedule in the reference. -/
namespace Go.Proofs.Yticallgbmmahjaa
open Go.RowKit

theorem fold_ok {ts : List Tk} {c : Int} : ∀ (L : List (List Int)) (o : Option (List Int)), (∀ x ∈ L, okTS ts x = true) → (∀ b, o = some b → okTS ts b = true) → ∀ b, L.foldl (sstep ts c) o = some b → okTS ts b = true
  | [], o, _, ho, b, h => ho b h
  | x :: L, o, hL, ho, b, h => by
    refine fold_ok L (sstep ts c o x) (fun y hy => hL y (List.mem_cons_of_mem _ hy)) (fun b' hb' => ?_) b h
    unfold sstep at hb'
    split at hb'
    · cases o with
      | none => simp [bstep] at hb'; subst hb'; exact hL x (by simp)
      | some b0 =>
        simp only [bstep] at hb'
        split at hb'
        · simp at hb'; subst hb'; exact hL x (by simp)
        · exact ho b' hb'
    · exact ho b' hb'
theorem part_ok {ts : List Tk} (hv : vTks ts = true) {done rs p : List Int} {d : Int} (hds : startsL ts = done ++ d :: rs) (hp : p.length = done.length) (hvals : ∀ j, j < p.length → 0 ≤ at0 p j ∧ at0 p j ≤ 5) (k : Nat) : ∀ x ∈ part p d rs k, okTS ts x = true := by
  intro x hx
  unfold part at hx
  simp only [List.mem_flatMap, List.mem_map] at hx
  obtain ⟨v, hv1, t, ht, rfl⟩ := hx
  have hl := startsL_len ts
  rw [hds] at hl
  simp at hl
  have h2 := domK_mem d 6 v (List.mem_of_mem_take hv1)
  refine okTS_iff.2 ⟨hv, by simp [tups_len _ _ ht]; omega, allR_of fun j hj => ?_⟩
  have : at0 (p ++ v :: t) j ∈ p ++ v :: t := at0_mem hj
  rcases List.mem_append.1 this with h | h
  · obtain ⟨i, hi, e⟩ := List.mem_iff_getElem.1 h
    have h3 := hvals i hi
    have : at0 p i = at0 (p ++ v :: t) j := by rw [at0, getD_lt _ _ hi, e]
    rw [this] at h3
    simpa [inR] using h3
  · rcases List.mem_cons.1 h with h | h
    · simp [inR]; omega
    · have := tups_vals _ _ ht _ h
      simpa [inR] using this
set_option maxRecDepth 100000 in
set_option maxHeartbeats 8000000 in
theorem extend_node (v : Value) (ts : List Tk) (c : Int) (g bs : Nat) (w0 : World) (hv : vTks ts = true) (hT : STasks w0 v ts) (hg0 : w0.heap.size ≤ g) (hbs0 : w0.heap.size ≤ bs) (d : Int) (rs : List Int)
    (IH : ∀ (done p : List Int) (o : Option (List Int)) (W : World), startsL ts = done ++ rs → p.length = done.length → (∀ b, o = some b → okTS ts b = true) → Ext w0 W → SchSt v ts c g bs p o W →
      Calls Try.prog 37 #[.pointer (some ⟨bs, 0, none⟩), .int .i64 p.length] W (ExtEnd v ts c g bs p (((tups rs).map fun t => p ++ t).foldl (sstep ts c) o) W))
    (done p : List Int) (o : Option (List Int)) (W : World) (hds : startsL ts = done ++ d :: rs) (hp : p.length = done.length) (hob : ∀ b, o = some b → okTS ts b = true) (hx0 : Ext w0 W) (hst : SchSt v ts c g bs p o W) :
    Calls Try.prog 37 #[.pointer (some ⟨bs, 0, none⟩), .int .i64 p.length] W (ExtEnd v ts c g bs p (((tups (d :: rs)).map fun t => p ++ t).foldl (sstep ts c) o) W) := by
  have hT0 := hide hT
  obtain ⟨l1, l4⟩ := vTks_len hv
  obtain ⟨A, cp, rfl, -⟩ := hT.form
  have hlt : p.length < ts.length := by have h := startsL_len ts; rw [hds] at h; simp at h; omega
  have hat : tkS ts p.length = d := by rw [← startsL_at ts hlt, at0, hds, hp, getD_lt _ _ (by simp)]; simp
  obtain ⟨b, off, rfl, hbl, e0, -, -⟩ := (hT.ext hx0).at_ hlt
  have r1 := (vTks_at hv hlt).1
  have r2 := (vTks_at hv hlt).2.1
  rw [hat] at e0 r1 r2
  have c0 := hst.c0
  have hbl' := hst.lt
  have HST := hide hst
  have HIH := hide IH
  have HD := hide hds
  have HP := hide hp
  have HX0 := hide hx0
  have HOB := hide hob
  have HVT := hide hv
  have hne : ((p.length : Int) == (ts.length : Int)) = false := by rw [beq_eq_false_iff_ne]; omega
  clear hst hds hp hx0 hat IH hob hT hv
  go_enter Try.func37, Try.ntmps37
  go_wp2_with fail
  refine (domainValues_any d _ r1 (by omega)).mono ?_
  rintro e W1 ⟨A1, cv, bv, m, f, rfl, hc1, hd1, hbn, ho1, hx1⟩
  have HO1 := hide ho1
  have HX1 := hide hx1
  have hdl := domL_len d
  have hsz1 := hx1.size
  clear ho1 hx1 hne c0 e0
  go_wp2_with fail
  go_loopw [7] (fun i wr => ∃ k : Nat, k ≤ (domL d).length ∧ i = .int .i64 k ∧ SchSt (.slice (some ⟨b, off, none⟩) ts.length cp) ts c g bs p ((part p d rs k).foldl (sstep ts c) o) wr ∧ Keep (fun k => k ≠ g ∧ k ≠ bs) W wr ∧ OwnC wr A1 bv m f (domL d)) (fun i _ => (domL d).length - (intOf i).toNat)
  case atStart => exact ⟨0, Nat.zero_le _, rfl, by rw [part_zero]; exact HST.out.ext HX1.out, HX1.out.keep _, HO1.out⟩
  case round =>
    obtain ⟨k, hk, rfl, hS, hK, hC⟩ := hrel
    have HS := hide hS
    have HK := hide hK
    have HC := hide hC
    have c2 := hS.c2
    have hlr := hS.lt
    obtain ⟨fr, hrow, -⟩ := hS.row
    have hgl := hrow.lt
    have w0c : wr.cell? ⟨g, p.length, none⟩ = some (fr p.length) := hrow.cell hlt
    have wz := hrow.frozen p.length
    clear hS hK hC hrow
    by_cases hlk : k < (domL d).length
    · obtain ⟨rfl, hrb, hmb, hfb⟩ := HC.out (by omega)
      have cv0 : wr.cell? ⟨bv, k, none⟩ = some (.int .i64 (at0 (domL d) k)) := by rw [hrb.cell (by omega), hfb k hlk]
      have hbv := hrb.lt
      obtain ⟨v0, v5⟩ := domL_bd d hlk
      have hkI : (k : Int) < (domL d).length := by omega
      have hpI : (p.length : Int) < ts.length := by omega
      clear hrb hmb hfb
      go_wp2_with fail
      refine wp_region_ext_tail 10 (by kernel_rfl) (by kernel_rfl) ?_
      simp only [List.take_succ_cons, List.take_zero, List.drop_succ_cons, List.drop_zero]
      iterate 10 (apply quiet_val; (focus rfl); (focus (intro w' hw'; have hk' := hw'.cells; go_simp; all_goals exact rfl)); simp only [Act.put, List.setIfInBounds_toArray, List.set_cons_succ, List.set_cons_zero])
      refine wpQuiet_nil ?_
      intro w4 hx4
      have HX4 := hide hx4
      have w0c := (hx4.cells _ _ hgl).trans w0c
      have wz := (hx4.frz _ _ hgl).trans wz
      have hgl4 := Nat.lt_of_lt_of_le hgl hx4.size
      clear hx4
      go_wp2_with fail
      have hK4 := hide (show Keep (fun k => k ≠ g ∧ k ≠ bs) wr (w4.setCell ⟨g, p.length, none⟩ (.int .i64 (at0 (domL d) k))) from (HX4.out.keep _).set (fun _ hh => hh.1 rfl) _)
      have hE4 : Ext w0 (w4.setCell ⟨g, p.length, none⟩ (.int .i64 (at0 (domL d) k))) := Below.trans HX0.out ((HK.out.trans hK4.out).below HX0.out.size (fun k hk => by omega))
      have hpl : ((p.length : Int) + 1) = ((p ++ [at0 (domL d) k]).length : Int) := by simp
      have hih := HIH.out (done ++ [d]) (p ++ [at0 (domL d) k]) ((part p d rs k).foldl (sstep ts c) o) _ (by rw [HD.out]; simp) (by simp [HP.out]) (fold_ok _ _ (part_ok HVT.out HD.out HP.out HST.out.vals k) HOB.out) hE4 ((HS.out.ext HX4.out).push _ v0 v5 hlt)
      rw [← hpl] at hih
      refine hih.mono ?_
      clear hih hE4 hpl
      rintro e W5 ⟨rfl, hS5, hK5⟩
      have HS5 := hide hS5
      have HK5 := hide hK5
      clear hS5 hK5 w0c wz
      go_wp2_with fail
      go_roundw
      case rel =>
        refine ⟨k + 1, by omega, by go_num, ?_, HK.out.trans (hK4.out.trans HK5.out), fun hp => ?_⟩
        · rw [part_succ p d rs hlk, List.foldl_append]
          exact HS5.out.pop
        · obtain ⟨q1, q2, q3, q4⟩ := HC.out hp
          refine ⟨q1, (hK4.out.trans HK5.out).row ⟨?_, ?_⟩ q2, q3, q4⟩
          · have := HST.out.row.elim fun f h => h.1.lt; omega
          · have := HST.out.lt; omega
      case measure => simp [intOf]; omega
    · obtain rfl : k = (domL d).length := by omega
      have hE := hide (show ExtEnd (.slice (some ⟨b, off, none⟩) ts.length cp) ts c g bs p (((tups (d :: rs)).map fun t => p ++ t).foldl (sstep ts c) o) W (.returned (.tuple #[])) wr by rw [← part_all]; exact ⟨rfl, HS.out, HK.out⟩)
      go_wp2_with fail
      go_end0
      exact hE.out
theorem extend_any (v : Value) (ts : List Tk) (c : Int) (g bs : Nat) (w0 : World) (hv : vTks ts = true) (hT : STasks w0 v ts) (hg0 : w0.heap.size ≤ g) (hbs0 : w0.heap.size ≤ bs) : ∀ (rs done p : List Int) (o : Option (List Int)) (W : World), startsL ts = done ++ rs → p.length = done.length → (∀ b, o = some b → okTS ts b = true) → Ext w0 W → SchSt v ts c g bs p o W →
      Calls Try.prog 37 #[.pointer (some ⟨bs, 0, none⟩), .int .i64 p.length] W (ExtEnd v ts c g bs p (((tups rs).map fun t => p ++ t).foldl (sstep ts c) o) W)
  | [], done, p, o, W, hds, hp, hob, hx, hst => by
    have hl : p.length = ts.length := by have h := startsL_len ts; rw [hds] at h; simp at h; omega
    have hok : okTS ts p = true := okTS_iff.2 ⟨hv, hl, allR_of fun j hj => by have := hst.vals j hj; simpa [inR] using this⟩
    have := extend_leaf v ts c g bs p o W (hT.ext hx) hok hob hst
    simpa [tups] using this
  | d :: rs, done, p, o, W, hds, hp, hob, hx, hst =>
    extend_node v ts c g bs w0 hv hT hg0 hbs0 d rs (fun done p o W => extend_any v ts c g bs w0 hv hT hg0 hbs0 rs done p o W) done p o W hds hp hob hx hst
end Go.Proofs.Yticallgbmmahjaa
/- The walk of Schedule in the reference, whole. -/
namespace Go.Proofs.Yticallgbmmahjaa
open Go.RowKit

/-- Two results: a list that reads as xs, and a word; memory only grew. -/
def TwoInts (xs : List Int) (ok : Bool) (w : World) (e : Ending) (w' : World) : Prop := ∃ A c, e = .returned (.tuple #[.slice A xs.length c, .bool ok]) ∧ SInts w' (.slice A xs.length c) xs ∧ Ext w w'
theorem schO_fold (ts : List Tk) (c : Int) : (tups (startsL ts)).foldl (sstep ts c) none = schO ts c := by rw [sstep_fold]; rfl
set_option maxRecDepth 100000 in
set_option maxHeartbeats 4000000 in
theorem ScheduleS_ok (v : Value) (ts : List Tk) (c : Int) (w : World) (hT : STasks w v ts) (hv : vTks ts = true) (hc : inR c 0 9 = true) :
    Calls Try.prog 14 #[v, .int .i64 c] w (TwoInts ((schO ts c).getD []) (schO ts c).isSome w) := by
  have hT0 := hide hT
  obtain ⟨l1, l4⟩ := vTks_len hv
  obtain ⟨A, cp, rfl, -⟩ := hT.form
  have HV := hide hv
  have HC := hide (show (vTks ts && inR c 0 9) = true by rw [hv, hc]; rfl)
  clear hT hv hc
  go_enter Try.func14, Try.ntmps14
  go_wp2_with fail
  refine (validTasks_any _ ts c _ hT0.out).mono ?_
  rintro e w1 ⟨rfl, hx1⟩
  rw [HC.out]
  have HX1 := hide hx1
  clear hx1
  go_wp2_with (at_make; go_must (refine wpList_make_gen _ rfl _ _ 24 rfl 3 (.int .i64 0) 1 8 Try.underlying24 Try.infoI .i64 .i64 ts.length rfl rfl (by omega) (by omega) (fun _ => .int .i64 0) (fun i _ => by simp [Value.cells, Nat.mod_one]) ?_); intro w2 hrow hsz hx2; rw [Nat.mul_one] at hrow; have HROW := hide hrow; have HX2 := hide hx2; have hsz2 : w2.heap.size = w1.heap.size + 1 := hsz; clear hrow hsz hx2)
  obtain ⟨Wf, hWf⟩ : ∃ Wf, w2.alloc (.cells #[.slice A ts.length cp, .int .i64 c, .slice (some ⟨w1.heap.size, 0, none⟩) ts.length ts.length, .slice none 0 0] 66) = Wf := ⟨_, rfl⟩
  have hst : SchSt (.slice A ts.length cp) ts c w1.heap.size (w1.heap.size + 1) [] none Wf := by
    refine ⟨?_, ?_, ?_, ⟨_, ?_, rfl⟩, ?_, ⟨fun _ => .int .i64 0, ?_, fun j hj => absurd hj (by simp)⟩, fun j hj => absurd hj (by simp), Nat.zero_le _, by omega, ?_⟩
    · rw [← hWf]; exact World.cell?_alloc_at _ _ _ _ hsz2.symm
    · rw [← hWf]; exact World.cell?_alloc_at _ _ _ _ hsz2.symm
    · rw [← hWf]; exact World.cell?_alloc_at _ _ _ _ hsz2.symm
    · rw [← hWf]; exact World.cell?_alloc_at _ _ _ _ hsz2.symm
    · rw [← hWf, ← hsz2]; simp
    · rw [← hWf]; exact ((Ext.refl w2).alloc _).row HROW.out
    · rw [← hWf]; simp; omega
  have hxf : Ext w Wf := by rw [← hWf]; exact (HX1.out.trans HX2.out).alloc _
  have hs1 := HX1.out.size
  have he := extend_any (.slice A ts.length cp) ts c w1.heap.size (w1.heap.size + 1) w HV.out hT0.out hs1 (by omega) (startsL ts) [] [] none Wf rfl rfl (fun b h => by cases h) hxf hst
  have hmap : (tups (startsL ts)).map (fun t => [] ++ t) = tups (startsL ts) := by simp
  rw [hmap, schO_fold] at he
  rw [hWf]
  refine he.mono ?_
  rintro e w4 ⟨rfl, hS4, hK4⟩
  have HS4 := hide hS4
  have hx4 := hide (show Ext w w4 from Below.trans hxf (hK4.below hxf.size (fun k hk => by omega)))
  obtain ⟨out, o1, o2⟩ := hS4.c3
  have hl4 := hS4.lt
  clear hst hxf he hmap hWf hS4 hK4 hsz2
  cases ho : schO ts c with
  | none =>
    rw [ho] at o2
    have o2 : out = .slice none 0 0 := o2
    subst o2
    have HO := hide ho
    clear ho
    go_wp2_with fail
    refine wp_region_ext (by kernel_rfl) (by kernel_rfl) ?_
    iterate 12 (apply quiet_val; (focus rfl); (focus (intro w' hw'; have hk' := hw'.cells; go_simp; all_goals exact rfl)); simp only [Act.put, List.setIfInBounds_toArray, List.set_cons_succ, List.set_cons_zero])
    refine wpQuiet_nil ?_
    intro w5 hx5
    have HE := hide (show TwoInts ((schO ts c).getD []) (schO ts c).isSome w (.returned (.tuple #[.slice none 0 0, .bool false])) w5 by rw [HO.out]; exact ⟨none, 0, rfl, ⟨none, 0, rfl, Nat.le_refl _, by simp, fun i hi => absurd hi (by simp), fun h => absurd h (by simp)⟩, hx4.out.trans hx5⟩)
    clear hx5 o1
    go_wp2
    go_ret2
    exact HE.out
  | some b =>
    rw [ho] at o2
    obtain ⟨bb, off, cb, rfl, hSb, hb1, hb2⟩ := o2
    have hbp : 0 < b.length := by
      have h1 : bestF (fun x => mk ts x ts.length) ((tups (startsL ts)).filter (feas ts c)) = some b := ho
      rcases bestF_mem _ _ _ _ h1 with h | h
      · cases h
      · have := tups_len _ _ (List.mem_filter.1 h).1
        rw [startsL_len] at this
        omega
    have hbp' : (0 : Int) < b.length := by omega
    have HSB := hide hSb
    have HO := hide ho
    clear ho hSb hb1 hb2
    go_wp2_with fail
    refine wp_region_ext (by kernel_rfl) (by kernel_rfl) ?_
    iterate 12 (apply quiet_val; (focus rfl); (focus (intro w' hw'; have hk' := hw'.cells; go_simp; all_goals exact rfl)); simp only [Act.put, List.setIfInBounds_toArray, List.set_cons_succ, List.set_cons_zero])
    refine wpQuiet_nil ?_
    intro w5 hx5
    have HE := hide (show TwoInts ((schO ts c).getD []) (schO ts c).isSome w (.returned (.tuple #[.slice (some ⟨bb, off, none⟩) b.length cb, .bool true])) w5 by rw [HO.out]; exact ⟨_, _, rfl, HSB.out.ext hx5, hx4.out.trans hx5⟩)
    clear hx5 o1
    go_wp2
    go_ret2
    exact HE.out
set_option maxHeartbeats 1000000 in
theorem ScheduleS_any (v : Value) (ts : List Tk) (c : Int) (w : World) (hT : STasks w v ts) :
    Calls Try.prog 14 #[v, .int .i64 c] w (TwoInts ((schX ts c).getD []) (schX ts c).isSome w) := by
  by_cases hv : (vTks ts && inR c 0 9) = true
  · have h := hv
    rw [Bool.and_eq_true] at h
    unfold schX
    rw [if_pos hv]
    exact ScheduleS_ok v ts c w hT h.1 h.2
  · have HC := hide (Bool.eq_false_iff.2 hv)
    have HX := hide (show schX ts c = none by rw [schX, if_neg hv])
    have hT0 := hide hT
    obtain ⟨A, cp, rfl, -⟩ := hT.form
    clear hT hv
    go_enter Try.func14, Try.ntmps14
    go_wp2_with fail
    refine (validTasks_any _ ts c _ hT0.out).mono ?_
    rintro e w1 ⟨rfl, hx1⟩
    rw [HC.out]
    have HE := hide (show TwoInts ((schX ts c).getD []) (schX ts c).isSome w (.returned (.tuple #[.slice none 0 0, .bool false])) w1 by rw [HX.out]; exact ⟨none, 0, rfl, ⟨none, 0, rfl, Nat.le_refl _, by simp, fun i hi => absurd hi (by simp), fun h => absurd h (by simp)⟩, hx1⟩)
    clear hx1
    go_wp2
    go_ret2
    exact HE.out
end Go.Proofs.Yticallgbmmahjaa
