/- Draws of the generator: a model and an objective. -/
import Derived.Test.YtalgilgfoekioaaGreatDoorDrwC
import Derived.Test.YtalgilgfoekioaaGreatDoorFltZ
import Derived.Test.YtalgilgfoekioaaGreatDoorConsA
import Derived.Test.YtalgilgfoekioaaGreatDoorAppZ
namespace Go.Proofs.YtalgilgfoekioaaGreatDoor
open Go.RowKit

theorem run_appIOD (w : World) (ty : TypeId) (base : Nat) (v : Value) (xs : List Int) (x : Int) (b c : Nat) (hown : AppI base w v xs) (hc : w.cell? ⟨b, 0, none⟩ = some (.int .i64 x)) (hl : xs.length ≤ 1000000) (hb : base ≤ w.heap.size) :
    ∃ v' w', (Builtin.append_ #[23, 23] ty #[v, .slice (some ⟨b, 0, none⟩) 1 c]).run Tryz.prog w = .ok v' w' ∧ AppI base w' v' (xs ++ [x]) ∧ w.grownBy w' v.ownBlock ∧ (∀ g, v'.ownBlock = some g → v.ownBlock = some g ∨ w.heap.size ≤ g) := by
  obtain ⟨i, hi, hz, hsz, hby⟩ := Tryz.infoIp
  obtain ⟨v', w', e1, e2, e3, e4⟩ := run_append_kind (P := Tryz.prog) w base 23 ty 3 i (.int .i64 0) 8 Tryz.underlying23 hi hz hsz hby rfl v xs.length (xs.map vI) hown b c (.int .i64 x) hc rfl (by unfold maxLen; omega) (by omega) hb
  exact ⟨v', w', e1, by unfold AppI; simpa [vI] using e2, e3, e4⟩
theorem wpList_appIOD (w : World) {ops : Array Oper} {rest : List Oper} {o : Oper} {a : Act} {Q : Exit → Act → World → Prop} (hgd : o.guard = none) (s y : Operand)
    (ho : o.op = .call { callee := .builtin .append, args := #[s, y], argTypes := #[23, 23] })
    (base : Nat) (v : Value) (xs : List Int) (x : Int) (b c : Nat) (hs : a.eval s = v) (hy : a.eval y = .slice (some ⟨b, 0, none⟩) 1 c)
    (hown : AppI base w v xs) (hc : w.cell? ⟨b, 0, none⟩ = some (.int .i64 x)) (hl : xs.length ≤ 1000000) (hb : base ≤ w.heap.size)
    (h : ∀ v' w', AppI base w' v' (xs ++ [x]) → w.grownBy w' v.ownBlock → (∀ g, v'.ownBlock = some g → v.ownBlock = some g ∨ w.heap.size ≤ g) → wpList Tryz.prog ops Q rest (a.put o.dst v') w') : wpList Tryz.prog ops Q (o :: rest) a w := by
  obtain ⟨v', w', hrun, h1, h2, h3⟩ := run_appIOD w o.type base v xs x b c hown hc hl hb
  refine wpList_plain hgd fun K hK => ?_
  unfold Oper.wp
  simp [execOp, ho, resolve, invoke, builtin, hs, hy, hrun, Result.andThen]
  exact hK _ _ (h v' w' h1 h2 h3)
theorem AppI.keepD {base : Nat} {S : Nat → Prop} {w w' : World} {v : Value} {xs : List Int} (h : AppI base w v xs) (hk : Keep S w w') (hS : ∀ g, v.ownBlock = some g → S g) : AppI base w' v xs := by
  refine ⟨h.1, ?_⟩
  rcases h.2 with hn | ⟨g, cap, cur, e, hb, hgg, rest⟩
  · exact .inl hn
  · exact .inr ⟨g, cap, cur, e, hb, (hk.block g (Array.getElem?_eq_some_iff.1 hgg).1 (hS g (by rw [e]; rfl))).trans hgg, rest⟩
theorem AppI.sintsD {base : Nat} {w : World} {v : Value} {xs : List Int} (h : AppI base w v xs) (hl : xs.length ≤ 1000000) (hi : ∀ i, i < xs.length → I64 (at0 xs i)) : SInts w v xs := by
  rcases h.2 with ⟨h1, h2⟩ | ⟨g, cap, cur, h1, hg, hh, hnc, hm, hcs, htk⟩
  · exact ⟨none, 0, by rw [h1, h2], by omega, by omega, hi, fun hp => absurd hp (by omega)⟩
  · refine ⟨_, _, h1, hnc, by omega, hi, fun _ => ⟨g, 0, rfl, (Array.getElem?_eq_some_iff.1 hh).1, fun i hi' => ?_⟩⟩
    have e1 : (cur.toList.take (xs.length * 1))[i]? = (xs.map vI)[i]? := by rw [htk]
    rw [List.getElem?_take, if_pos (by omega), List.getElem?_map, List.getElem?_eq_getElem hi', Array.getElem?_toList] at e1
    unfold at0
    rw [getD_lt _ _ hi']
    simp [World.cell?, hh, e1, vI]
/-- An objective came. -/
def ObjGot (w0 : World) (br N n : Nat) (W : World) (e : Ending) (W' : World) : Prop :=
  ∃ v xs, e = .returned v ∧ AppI W.heap.size W' v xs ∧ xs.length ≤ n + 1 ∧ (∀ i, i < xs.length → -9 ≤ at0 xs i ∧ at0 xs i ≤ 10) ∧ RdSt w0 br N W' ∧ Keep (fun k => k ≠ br) W W'
theorem at0_snD (xs : List Int) (x : Int) : at0 (xs ++ [x]) xs.length = x := by simp [at0]
theorem at0_snltD (xs : List Int) (x : Int) {i : Nat} (h : i < xs.length) : at0 (xs ++ [x]) i = at0 xs i := by simp [at0, List.getElem?_append_left h]
theorem snoc_bd {xs : List Int} {y lo hi : Int} (h : ∀ i, i < xs.length → lo ≤ at0 xs i ∧ at0 xs i ≤ hi) (h1 : lo ≤ y) (h2 : y ≤ hi) : ∀ i, i < (xs ++ [y]).length → lo ≤ at0 (xs ++ [y]) i ∧ at0 (xs ++ [y]) i ≤ hi := fun i hi' => by
  rcases Nat.lt_trichotomy i xs.length with hlt | rfl | hgt
  · rw [at0_snltD _ _ hlt]; exact h i hlt
  · rw [at0_snD]; exact ⟨h1, h2⟩
  · rw [List.length_append, List.length_singleton] at hi'; omega
theorem grown_keepS {w w' : World} {row : Option Nat} {S : Nat → Prop} (h : w.grownBy w' row) (hS : ∀ k, S k → row ≠ some k) : Keep S w w' :=
  ⟨h.os, h.tape, h.output, h.size, fun k hk hs => h.block k hk (fun e => hS k hs e.symm)⟩
set_option maxRecDepth 100000 in
set_option maxHeartbeats 4000000 in
theorem objective_any (w0 : World) (br N n : Nat) (W : World) (hN : N ≤ 90000) (hn : n ≤ 4) (hR : RdSt w0 br N W) :
    Calls Tryz.prog 12 #[.pointer (some ⟨br, 0, none⟩), .int .i64 n] W (ObjGot w0 br (N + 10) n W) := by
  have HR := hide hR
  have hbr := hR.lt
  have hw0 := hR.ext.size
  clear hR
  go_enter Tryz.func12, Tryz.ntmps12
  go_wp2_with fail
  go_loopw [5, 6] (fun o i wr => ∃ (k : Nat) (xs : List Int), i = .int .i64 k ∧ k ≤ n ∧ xs.length = k ∧ (∀ i, i < xs.length → -9 ≤ at0 xs i ∧ at0 xs i ≤ 10) ∧ AppI W.heap.size wr o xs ∧ RdSt w0 br (N + k) wr ∧ Keep (fun k => k ≠ br) W wr) (fun _ i _ => n - (intOf i).toNat)
  case atStart => exact ⟨0, [], rfl, Nat.zero_le _, rfl, fun i hi => absurd hi (by simp), AppI.empty W, HR.out.grow ((Ext.refl W).alloc _), ((Ext.refl W).alloc _).keep _⟩
  case round =>
    obtain ⟨k, xs, rfl, hk, hxl, hxb, hA, hRk, hK⟩ := hrel
    obtain ⟨W2, hW2⟩ : ∃ W2, W2 = wr := ⟨wr, rfl⟩
    subst hW2
    have HA := hide hA
    have HRK := hide hRk
    have HK := hide hK
    have HXB := hide hxb
    have HXL := hide hxl
    have hs2 := hK.size
    obtain ⟨Ao, co, rfl, -⟩ := hA.form
    have HOB := hide (fun g (e : (Value.slice Ao xs.length co).ownBlock = some g) => (World.ownsRow.lt hA g e).1)
    clear hA hRk hK hxb hxl
    by_cases hlt : k < n
    · have hkI : (k : Int) < n := by omega
      go_wp2_with fail
      refine (one_any w0 br (N + k) (-9) 9 W2.heap.size 6 6 _ (by omega) (by omega) (by omega) (HRK.out.grow ((Ext.refl W2).alloc _)) (by simp) (by omega) (newL12 W2 3 [1, 0, -1, 2, -9, 9] (by intro x hx; simp at hx; omega)) (Nat.le_refl _)).mono ?_
      rintro e W5 ⟨y, y0, y1, rfl, hR5, hK5⟩
      have hK5 : Keep (fun k => k ≠ br) W2 W5 := (((Ext.refl W2).alloc _).keep _).trans hK5
      have HA5 := hide (HA.out.keepD hK5 (fun g e => by have := HOB.out g e; omega))
      have HR5 := hide hR5
      have HK5 := hide (HK.out.trans hK5)
      have hs5 := HK5.out.size
      clear hR5 hK5
      go_wp2_with (at_builtin; go_must (refine wpList_appIOD _ rfl _ _ rfl W.heap.size _ xs y W5.heap.size 1 rfl rfl (AppI.ext HA5.out ((Ext.refl W5).alloc _)) (by go_simp) (by have := HXL.out; omega) (by simp; omega) ?_); intro v' W6 hA6 hg6 ho6; obtain ⟨A6, c6, hv6, -⟩ := hA6.form; rw [show (xs ++ [y]).length = xs.length + 1 by simp] at hv6; subst hv6; have HA6 := hide hA6; have HG6 := hide (grown_keepS (S := fun k => k < W.heap.size) hg6 (fun k hk e => by have := HOB.out k e; omega)); clear hA6 hg6 ho6)
      go_wp2_with fail
      go_roundw
      case rel => exact ⟨k + 1, xs ++ [y], by go_num, by omega, by simp [HXL.out], snoc_bd HXB.out y0 (by omega), HA6.out, ((HR5.out.grow ((Ext.refl W5).alloc _)).keep HG6.out (by omega) (fun k hk => by omega)).mono (by omega), (HK5.out.trans (((Ext.refl W5).alloc _).keep _)).trans9 HG6.out (fun k hk _ => hk)⟩
      case measure => simp [intOf]; omega
    · obtain rfl : k = n := by omega
      have hkI : ¬ (k : Int) < k := by omega
      go_wp2_with fail
      refine (pick_any w0 br (N + k) 14 _ (by omega) (by omega) (by omega) HRK.out).mono ?_
      rintro e W5 ⟨z, z0, z1, rfl, hR5, hK5⟩
      have HA5 := hide (HA.out.keepD hK5 (fun g e => by have := HOB.out g e; omega))
      have HR5 := hide hR5
      have HK5 := hide (HK.out.trans hK5)
      have hs5 := HK5.out.size
      clear hR5 hK5
      by_cases hz : z = 0
      · subst hz
        go_wp2_with (at_builtin; go_must (refine wpList_appIOD _ rfl _ _ rfl W.heap.size _ xs 10 W5.heap.size 1 rfl rfl (AppI.ext HA5.out ((Ext.refl W5).alloc _)) (by go_simp) (by have := HXL.out; omega) (by simp; omega) ?_); intro v' W6 hA6 hg6 ho6; obtain ⟨A6, c6, hv6, -⟩ := hA6.form; rw [show (xs ++ [(10 : Int)]).length = xs.length + 1 by simp] at hv6; subst hv6; have HA6 := hide hA6; have HG6 := hide (grown_keepS (S := fun k => k < W.heap.size) hg6 (fun k hk e => by have := HOB.out k e; omega)); clear hA6 hg6 ho6)
        go_ret
        exact ⟨_, xs ++ [10], rfl, HA6.out, by simp [HXL.out], snoc_bd HXB.out (by omega) (by omega), ((HR5.out.grow ((Ext.refl W5).alloc _)).keep HG6.out (by omega) (fun k hk => by omega)).mono (by omega), (HK5.out.trans (((Ext.refl W5).alloc _).keep _)).trans9 HG6.out (fun k hk _ => hk)⟩
      · have hzb : (z == 0) = false := by simp [hz]
        go_wp2_with fail
        go_ret
        exact ⟨_, xs, rfl, HA5.out, by have := HXL.out; omega, HXB.out, HR5.out.mono (by omega), HK5.out⟩
/-- A model and an objective came. -/
def DsbGot (w : World) (e : Ending) (W' : World) : Prop :=
  ∃ vd vc ds cs vo obj, e = .returned (.tuple #[.agg #[vd, vc], vo]) ∧ SInts W' vd ds ∧ SCons W' vc cs ∧ 1 ≤ ds.length ∧ ds.length ≤ 4 ∧ SInts W' vo obj ∧ Ext w W'
set_option maxRecDepth 100000 in
set_option maxHeartbeats 4000000 in
theorem DrawShavedBound_any (v : Value) (nb : Nat) (w : World) (hB : SBytes w v nb) : Calls Tryz.prog 4 #[v] w (DsbGot w) := by
  have HB := hide hB
  obtain ⟨A, c, rfl, -⟩ := hB
  go_enter Tryz.func4, Tryz.ntmps4
  go_wp2_with fail
  refine (newReader_any w _ _ nb HB.out ((Ext.refl w).alloc _)).mono ?_
  rintro e W1 ⟨br, rfl, hR1, hx1, hbr⟩
  have hbr : w.heap.size + 1 ≤ br := by simpa using hbr
  have hrb1 : RB w.heap.size 2 W1 := by
    refine RB.keep (S := fun _ => True) ⟨by simp, fun i => World.frozen?_alloc_new _ _ _ _, fun i hi => ?_⟩ (hx1.keep _) trivial
    obtain rfl | rfl : i = 0 ∨ i = 1 := by omega
    all_goals exact ⟨_, World.cell?_alloc_at _ _ _ _ rfl⟩
  have hbrl := hR1.lt
  have HX1 := hide (((Ext.refl w).alloc _).trans hx1)
  have HR1 := hide hR1
  have HRB1 := hide hrb1
  have hws := HX1.out.size
  clear hR1 hx1 hrb1
  go_wp2_with fail
  refine (searchModel_any w br 0 _ (by omega) HR1.out).mono ?_
  rintro e W2 ⟨dv, cv, n, cs, B, rfl, hmf, hcs, hR2, hK2⟩
  obtain ⟨g, cap, rfl, -, -, -⟩ := hmf.ds.form
  obtain ⟨Ac, ec, rfl, -⟩ := hmf.ca.form
  have hn1 := hmf.n1
  have hn4 := hmf.n4
  have hs2 := hK2.size
  have HMF2 := hide hmf
  have HR2 := hide hR2
  have HK2 := hide hK2
  have HRB2 := hide (HRB1.out.keep hK2 (by omega))
  clear hmf hR2 hK2
  go_upto_region 3 with fail
  obtain ⟨W3, hW3⟩ : ∃ W3, W3 = W2.alloc (.cells #[.slice (some ⟨g, 0, none⟩) n cap, .slice Ac cs.length ec] 26) := ⟨_, rfl⟩
  have hx3 : Ext W2 W3 := by rw [hW3]; exact (Ext.refl W2).alloc _
  have m0 : W3.cell? ⟨W2.heap.size, 0, none⟩ = some (.slice (some ⟨g, 0, none⟩) n cap) := by rw [hW3]; go_simp
  have m1 : W3.cell? ⟨W2.heap.size, 1, none⟩ = some (.slice Ac cs.length ec) := by rw [hW3]; go_simp
  have z6 : ∀ i, W3.frozen? ⟨W2.heap.size, i, none⟩ = false := by rw [hW3]; exact fun i => World.frozen?_alloc_new _ _ _ _
  have hs3 : W2.heap.size < W3.heap.size := by rw [hW3]; simp
  rw [← hW3]
  clear hW3
  have hmb : W2.heap.size ≠ br := by omega
  have HS := hide (show MS w br 920 W2 W3 n cap g Ac ec cs from ⟨m0, m1, z6, hs3, hx3.keep _, HR2.out.grow hx3 |>.mono (by omega)⟩)
  clear hx3 z6
  refine wp_region_any (by kernel_rfl) ?_
  change wpAny _ _ _ _ _ _ _ (World.drew _)
  refine wpAny_take (i := 1) (v := ?_) rfl (by kernel_rfl) (by kernel_rfl) (by kernel_rfl) (by first | exact fun _ _ _ h => h | (rintro _ _ _ ⟨h, _⟩; cases h)) (Or.inl ⟨by rfl, ?hy1⟩) ?_
  case hy1 => intro w; go_simp; with_reducible rfl
  simp only [Act.put, List.getElem_toArray, List.getElem_cons_zero, List.getElem_cons_succ, List.setIfInBounds_toArray, List.set_cons_succ, List.set_cons_zero]
  refine wpAny_take (i := 2) (v := ?_) rfl (by kernel_rfl) (by kernel_rfl) (by kernel_rfl) (by first | exact fun _ _ _ h => h | (rintro _ _ _ ⟨h, _⟩; cases h)) (Or.inl ⟨by rfl, ?hy2⟩) ?_
  case hy2 => intro w; go_simp; with_reducible rfl
  simp only [Act.put, List.getElem_toArray, List.getElem_cons_zero, List.getElem_cons_succ, List.setIfInBounds_toArray, List.set_cons_succ, List.set_cons_zero]
  refine wpAny_flt 0 6 [3, 4, 5] [7] (.agg #[.slice (some ⟨g, 0, none⟩) n cap, .slice Ac cs.length ec]) (fun w => w.cell? ⟨W2.heap.size, 0, none⟩ = some (.slice (some ⟨g, 0, none⟩) n cap) ∧ w.cell? ⟨W2.heap.size, 1, none⟩ = some (.slice Ac cs.length ec)) rfl (by kernel_rfl) rfl (fun _ _ _ h => h) ⟨m0, m1⟩ (And.intro (by rfl) ?hys) ?_
  case hys => intro w' hw'; obtain ⟨hk1, hk2⟩ : w'.cell? ⟨W2.heap.size, 0, none⟩ = some (.slice (some ⟨g, 0, none⟩) n cap) ∧ w'.cell? ⟨W2.heap.size, 1, none⟩ = some (.slice Ac cs.length ec) := hw'; go_simp; all_goals exact rfl
  simp only [nths, nth1, Act.put, List.setIfInBounds_toArray, List.set_cons_succ, List.set_cons_zero]
  refine wpSeqC_cons fun K hK => ?_
  go_simp
  refine hK _ _ ⟨m0, m1⟩ ?_
  clear hK K
  refine wpSeqC_cons fun K hK => ?_
  go_simp
  refine hK _ _ ⟨m0, m1⟩ ?_
  clear hK K
  refine wpSeqC_cons fun K hK => ?_
  go_simp
  refine (objective_any w br 920 n _ (by omega) (by omega) (HS.out.rd.grow (Ext.refl W3).drew)).mono ?_
  rintro e W5 ⟨vo, xs, rfl, hA5, hxl, hxb, hR5, hK5⟩
  have hK5 : Keep (fun k => k ≠ br) W3 W5 := ((Ext.refl W3).drew.keep _).trans hK5
  have HA5 := hide (show AppI W3.heap.size W5 vo xs from hA5)
  have HXB := hide hxb
  obtain ⟨Ao, co, rfl, -⟩ := hA5.form
  have HS := hide (HS.out.keep hmb hR5 hK5)
  refine hK _ _ ⟨HS.out.m0, HS.out.m1⟩ ?_
  clear hK K hR5 hK5 m0 m1 hA5 hxb
  have hk1 : Keep (fun k => k ≠ w.heap.size) W5 ((W5.setCell ⟨w.heap.size, 0, none⟩ (.slice (some ⟨g, 0, none⟩) n cap)).setCell ⟨w.heap.size, 1, none⟩ (.slice Ac cs.length ec)) :=
    ((Keep.refl (fun k => k ≠ w.heap.size) W5).set (p := ⟨w.heap.size, 0, none⟩) (fun _ hh => hh rfl) _).set (p := ⟨w.heap.size, 1, none⟩) (fun _ hh => hh rfl) _
  have HMF := hide ((HMF2.out.keep HS.out.kp (fun k hk => by omega)).keep hk1 (fun k hk => by omega))
  have HOI := hide ((HA5.out.keepD hk1 (fun g e => by have := (World.ownsRow.lt HA5.out g e).1; omega)).sintsD (by omega) (fun i hi => by have := HXB.out i hi; unfold I64; omega))
  have HT := hide (ext_of_keep (((HX1.out.keep (fun k => k < w.heap.size)).then HK2.out (fun k hk hs => by omega)).then HS.out.kp (fun k hk hs => by omega)) hk1 (fun k hk => by omega))
  obtain ⟨hrl, u0, u1, r0, r1, z0, z1⟩ := (HRB2.out.keep HS.out.kp (by omega)).two
  clear hk1
  refine wpSeqC_nil ?_
  go_wp2_with fail
  refine bodyPost_ret (v := .tuple #[.agg #[.slice (some ⟨g, 0, none⟩) n cap, .slice Ac cs.length ec], .slice Ao xs.length co]) (by simp only [results, Tryz.results4]; go_simp) rfl ?_
  obtain ⟨ds, q1, q2, q3⟩ := HMF.out.model (by omega) (by omega) (by omega)
  exact ⟨_, _, ds, cs, _, xs, rfl, q2, q3, by omega, by omega, HOI.out, HT.out⟩
end Go.Proofs.YtalgilgfoekioaaGreatDoor
