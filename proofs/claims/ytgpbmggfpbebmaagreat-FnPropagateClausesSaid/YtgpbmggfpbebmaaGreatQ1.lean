/- Draws of the generator: a model and literals. -/
import Derived.Test.YtgpbmggfpbebmaaGreatRdA
import Derived.Test.YtgpbmggfpbebmaaGreatDrw18
import Derived.Test.YtgpbmggfpbebmaaGreatDrwB
import Derived.Test.YtgpbmggfpbebmaaGreatClsL
namespace Go.Proofs.YtgpbmggfpbebmaaGreat
open Go.RowKit

theorem SLt.of_lay {w : World} {v : Value} {ls : List Lt} (h : layLt.S w v ls) : SLt w v ls := by
  obtain ⟨A, c, h1, h2, h3, h5⟩ := h
  refine ⟨A, c, h1, h2, h3, fun hp => ?_⟩
  obtain ⟨b, off, e, hb, hc⟩ := h5 hp
  refine ⟨b, off, e, hb, fun j hj => ?_⟩
  have hl : lt0 ls j = ls[j] := by simp [lt0, hj]
  have hf : ∀ t, t < 3 → (layLt.flat ls)[j * 3 + t]? = (layLt.enc ls[j])[t]? := fun t ht => LayOk.flat_at layLtOk ls j t hj ht
  refine ⟨?_, ?_, ?_⟩
  · exact hc (j * 3 + 0) _ ((hf 0 (by omega)).trans (by rw [← hl]; rfl))
  · have := hc (j * 3 + 1) _ ((hf 1 (by omega)).trans (by rw [← hl]; rfl)); rw [← Nat.add_assoc] at this; exact this
  · have := hc (j * 3 + 2) _ ((hf 2 (by omega)).trans (by rw [← hl]; rfl)); rw [← Nat.add_assoc] at this; exact this
/-- A model and literals came. -/
def DrefGot (w : World) (e : Ending) (W' : World) : Prop :=
  ∃ vd vc vl ds cs ls, e = .returned (.tuple #[.agg #[vd, vc], vl]) ∧ SInts W' vd ds ∧ SCons W' vc cs ∧ SLt W' vl ls ∧ 1 ≤ ds.length ∧ ds.length ≤ 4 ∧ Ext w W'
end Go.Proofs.YtgpbmggfpbebmaaGreat
/- Draws of the generator: a list of clauses, a model with clauses. -/
namespace Go.Proofs.YtgpbmggfpbebmaaGreat
open Go.RowKit

/-- A slice's three words. -/
structure Slw where
  a : Option Addr
  n : Nat
  c : Nat
def slV (x : Slw) : Value := .slice x.a x.n x.c
def layCl : Lay Slw := ⟨35, 27, 1, 24, .slice none 0 0, fun x => [slV x]⟩
theorem layClOk : LayOk layCl Tryz.prog := by
  refine ⟨by show 0 < 1; omega, fun x => rfl, fun x u hu => ?_, Tryz.underlying27, ?_, rfl⟩
  · simp [layCl] at hu
    subst hu; rfl
  · have h : (Tryz.prog.info? 35).map (fun i => (i.zero, i.size, i.bytes)) = some (some (.slice none 0 0), 1, 24) := by kernel_rfl
    obtain ⟨i, h1, h2⟩ := Option.map_eq_some_iff.1 h
    simp only [Prod.mk.injEq] at h2
    exact ⟨i, h1, h2.1, h2.2.1, h2.2.2⟩
def sl0 (vs : List Slw) (i : Nat) : Slw := vs.getD i ⟨none, 0, 0⟩
/-- A list of clauses in the making: all blocks are the call's own. -/
def KA (K base : Nat) (w : World) (v : Value) (cls : List (List Lt)) : Prop :=
  ∃ vs : List Slw, vs.length = cls.length ∧ layCl.App base w v vs ∧ ∀ i, i < cls.length → layLt.App base w (slV (sl0 vs i)) (cl0 cls i) ∧ (cl0 cls i).length ≤ K
theorem KA.form {K base : Nat} {w : World} {v : Value} {cls : List (List Lt)} (h : KA K base w v cls) : ∃ A c, v = .slice A cls.length c ∧ cls.length ≤ c := by
  obtain ⟨vs, h1, h2, -⟩ := h
  obtain ⟨A, c, e, hc, -⟩ := LayApp.form h2
  rw [h1] at e hc
  exact ⟨A, c, e, hc⟩
theorem KA.keep {K base : Nat} {T : Nat → Prop} {w w' : World} {v : Value} {cls : List (List Lt)} (h : KA K base w v cls) (hk : Keep T w w') (hT : ∀ k, base ≤ k → T k) : KA K base w' v cls := by
  obtain ⟨vs, h1, h2, h3⟩ := h
  exact ⟨vs, h1, LayApp.keepT h2 hk hT, fun i hi => ⟨LayApp.keepT (h3 i hi).1 hk hT, (h3 i hi).2⟩⟩
theorem KA.ext {K base : Nat} {w w' : World} {v : Value} {cls : List (List Lt)} (h : KA K base w v cls) (hx : Ext w w') : KA K base w' v cls := h.keep (hx.keep (fun _ => True)) (fun _ _ => trivial)
theorem LayApp.apart9 {base base' : Nat} {w : World} {v v' : Value} {vs : List Slw} {xs : List Lt} (h : layCl.App base w v vs) (h' : layLt.App base' w v' xs) {g : Nat} (hg : v.ownBlock = some g) : v'.ownBlock ≠ some g := by
  intro hg'
  rcases h.2 with ⟨e1, -⟩ | ⟨k, cap, cur, e1, -, hh, -⟩
  · rw [e1] at hg; cases hg
  · rcases h'.2 with ⟨e2, -⟩ | ⟨k', cap', cur', e2, -, hh', -⟩
    · rw [e2] at hg'; cases hg'
    · rw [e1] at hg
      rw [e2] at hg'
      have a1 : k = g := Option.some.inj hg
      have a2 : k' = g := Option.some.inj hg'
      subst a1 a2
      rw [hh] at hh'
      injection hh' with hh'
      injection hh' with _ e
      exact absurd e (by decide)
/-- append of one clause. -/
theorem wpList_appKA (w : World) {ops : Array Oper} {rest : List Oper} {o : Oper} {a : Act} {Q : Exit → Act → World → Prop} (hgd : o.guard = none) (s x : Operand)
    (ho : o.op = .call { callee := .builtin .append, args := #[s, x], argTypes := #[27, 27] })
    (K base : Nat) (v : Value) (cls : List (List Lt)) (c : List Lt) (A : Option Addr) (cp b cb : Nat) (hs : a.eval s = v) (hx : a.eval x = .slice (some ⟨b, 0, none⟩) 1 (cb + 1))
    (hown : KA K base w v cls) (hbl : b < w.heap.size) (hb : w.cell? ⟨b, 0, none⟩ = some (.slice A c.length cp)) (hc : layLt.App base w (.slice A c.length cp) c) (hl : c.length ≤ K) (hn : cls.length ≤ 1000) (hbase : base ≤ w.heap.size)
    (h : ∀ v' w', KA K base w' v' (cls ++ [c]) → Below base w w' → wpList Tryz.prog ops Q rest (a.put o.dst v') w') : wpList Tryz.prog ops Q (o :: rest) a w := by
  obtain ⟨vs, h1, h2, h3⟩ := hown
  have hK : layCl.K (fun k => base ≤ k ∧ (v.ownBlock = some k ∨ w.heap.size ≤ k)) w v vs := ⟨LayApp.mono h2 (Nat.zero_le _), fun g hg => ⟨(World.ownsRow.lt h2 g hg).1, .inl hg⟩⟩
  have hS : layCl.S w (.slice (some ⟨b, 0, none⟩) 1 (cb + 1)) [⟨A, c.length, cp⟩] := ⟨_, _, rfl, by simp, by show 1 * 24 ≤ _; omega, fun _ => ⟨b, 0, rfl, hbl, fun j u hj => by
    match j with
    | 0 => injection hj with hj; subst hj; exact hb
    | j + 1 => exact absurd hj (by simp [layCl, Lay.flat])⟩⟩
  refine wpList_appK layClOk w hgd s x ho _ v _ vs _ hs hx hK hS (fun n c e => by cases e) (by simp; omega) (by show _ * 24 ≤ _; simp; omega) (fun k hk => ⟨by omega, .inr hk⟩) ?_
  intro v' w' hA hk
  have hkeep : ∀ {v2 : Value} {xs : List Lt}, layLt.App base w v2 xs → layLt.App base w' v2 xs := by
    intro v2 xs h5
    refine ⟨h5.1, ?_⟩
    rcases h5.2 with hn | ⟨g, cap, cur, e, hg, hh, rest⟩
    · exact .inl hn
    · have hgl : g < w.heap.size := (Array.getElem?_eq_some_iff.1 hh).1
      refine .inr ⟨g, cap, cur, e, hg, (hk.block g hgl ?_).trans hh, rest⟩
      rintro ⟨-, h6 | h6⟩
      · exact LayApp.apart9 h2 h5 h6 (by rw [e]; rfl)
      · omega
  refine h v' w' ⟨vs ++ [⟨A, c.length, cp⟩], by simp [h1], ?_, fun i hi => ?_⟩ ⟨hk.os, hk.tape, hk.output, hk.size, fun k hkl => hk.block k (by omega) (fun h6 => by omega)⟩
  · obtain ⟨q1, q2⟩ := hA
    refine ⟨q1.1, ?_⟩
    rcases q1.2 with hn | ⟨g, cap, cur, e, hg, rest⟩
    · exact .inl hn
    · exact .inr ⟨g, cap, cur, e, (q2 g (by rw [e]; rfl)).1, rest⟩
  · simp at hi
    by_cases hlt : i < cls.length
    · rw [show cl0 (cls ++ [c]) i = cl0 cls i by simp [cl0, List.getD_eq_getElem?_getD, List.getElem?_append_left hlt],
        show sl0 (vs ++ [⟨A, c.length, cp⟩]) i = sl0 vs i by simp [sl0, List.getD_eq_getElem?_getD, List.getElem?_append_left (show i < vs.length by omega)]]
      exact ⟨hkeep (h3 i hlt).1, (h3 i hlt).2⟩
    · obtain rfl : i = cls.length := by omega
      rw [show cl0 (cls ++ [c]) cls.length = c by simp [cl0], show sl0 (vs ++ [⟨A, c.length, cp⟩]) cls.length = ⟨A, c.length, cp⟩ by rw [← h1]; simp [sl0]]
      exact ⟨hkeep hc, hl⟩
/-- They read as clauses. -/
theorem KA.cls {K base : Nat} {w : World} {v : Value} {cls : List (List Lt)} (h : KA K base w v cls) (hK : K ≤ 1000000) (hn : cls.length ≤ 1000) : SCls w v cls := by
  obtain ⟨vs, h1, h2, h3⟩ := h
  obtain ⟨A, c, e, hc, hb, hcc⟩ := LayApp.S h2 (by show _ * 24 ≤ _; omega)
  refine ⟨A, c, by rw [e, h1], by omega, by omega, fun hp => ?_⟩
  obtain ⟨b, off, e2, hbl, hcell⟩ := hcc (by omega)
  refine ⟨b, off, e2, hbl, fun i hi => ⟨slV (sl0 vs i), hcell i _ ?_, SLt.of_lay (LayApp.S (h3 i hi).1 (by have := (h3 i hi).2; show _ * 24 ≤ _; omega))⟩⟩
  have hf := LayOk.flat_at layClOk vs i 0 (by omega) (by show 0 < 1; omega)
  have hi2 : i < vs.length := by omega
  rw [show i * layCl.size + 0 = i from by show i * 1 + 0 = i; omega] at hf
  rw [hf]
  simp [layCl, sl0, List.getD_eq_getElem?_getD, hi2]
/-- Clauses came. -/
def KGot (w0 : World) (br N : Nat) (W : World) (e : Ending) (W' : World) : Prop :=
  ∃ v cls, e = .returned v ∧ KA 4 W.heap.size W' v cls ∧ cls.length ≤ 5 ∧ RdSt w0 br N W' ∧ Keep (fun k => k ≠ br) W W'
set_option maxRecDepth 100000 in
set_option maxHeartbeats 4000000 in
theorem clauseList_any (w0 : World) (br N n : Nat) (W : World) (hn1 : 1 ≤ n) (hn : n ≤ 4) (hN : N ≤ 50000) (hR : RdSt w0 br N W) :
    Calls Tryz.prog 16 #[.pointer (some ⟨br, 0, none⟩), .int .i64 n] W (KGot w0 br (N + 55) W) := by
  have HR := hide hR
  have hbr := hR.lt
  have hw0 := hR.ext.size
  clear hR
  go_enter Tryz.func16, Tryz.ntmps16
  go_wp2_with fail
  refine (pick_any w0 br N 5 _ (by omega) (by omega) (by omega) (HR.out.grow ((Ext.refl W).alloc _))).mono ?_
  rintro e W1 ⟨k, k0, k1, rfl, hR1, hK1⟩
  obtain ⟨k, rfl⟩ : ∃ k' : Nat, k = k' := ⟨k.toNat, by omega⟩
  have HR1 := hide hR1
  have HK1 := hide ((((Ext.refl W).alloc (.cells #[] 35)).keep (fun k => k ≠ br)).trans hK1)
  have HA1 := hide (show KA 4 W.heap.size W1 (.slice (some ⟨W.heap.size, 0, none⟩) 0 0) [] from ⟨[], rfl, LayApp.keepT (LayApp.empty (L := layCl) W rfl) hK1 (fun k hk => by omega), fun i hi => absurd hi (by simp)⟩)
  clear hR1 hK1
  go_wp2_with fail
  go_loopw [5, 6] (fun o i wr => ∃ (j : Nat) (cls : List (List Lt)), i = .int .i64 j ∧ cls.length + j ≤ 4 ∧ KA 4 W.heap.size wr o cls ∧ RdSt w0 br (N + 41 - 10 * j) wr ∧ Keep (fun k => k ≠ br) W wr) (fun _ i _ => (intOf i).toNat)
  case atStart => exact ⟨k, [], rfl, by simp; omega, HA1.out, HR1.out.mono (by omega), HK1.out⟩
  case round =>
    obtain ⟨j, cls, rfl, hj, hA, hRr, hKr⟩ := hrel
    have HA := hide hA
    have HRr := hide hRr
    have HKr := hide hKr
    have hsz := hKr.size
    obtain ⟨A1, c1, rfl, -⟩ := hA.form
    clear hA hRr hKr
    by_cases hj0 : 0 < j
    · have hjI : 0 < (j : Int) := by omega
      have hjw : IntKind.i64.wrap ((j : Int) - 1) = (j : Int) - 1 := IntWalk.i64_in _ (by omega)
      go_wp2_with fail
      refine (randomClause_any w0 br (N + 41 - 10 * j) n _ hn1 hn (by omega) HRr.out).mono ?_
      rintro e W2 ⟨v2, xs, rfl, hA2, hxl, -, hR2, hK2⟩
      obtain ⟨A2, c2, rfl, hlc2, -⟩ := LayApp.form hA2
      have HR2 := hide hR2
      have HK2 := hide (HKr.out.trans hK2)
      have HC2 := hide (LayApp.mono hA2 (b1 := W.heap.size) hsz)
      have HA2 := hide (HA.out.keep hK2 (fun k hk => by omega))
      have hsz2 := hK2.size
      clear hR2 hK2 hA2
      go_wp2_with (at_builtin; go_must (refine wpList_appKA _ rfl _ _ rfl 4 W.heap.size (.slice A1 cls.length c1) cls xs A2 c2 W2.heap.size 0 rfl rfl (HA2.out.ext ((Ext.refl W2).alloc _)) (by simp) (World.cell?_alloc_at _ _ _ _ rfl) (LayApp.ext HC2.out ((Ext.refl W2).alloc _)) (by omega) (by omega) (by simp; omega) ?_); intro v' W5 hA5 hb5; have HA5 := hide hA5; have HB5 := hide hb5; clear hA5 hb5)
      go_roundw
      case rel =>
        exact ⟨j - 1, cls ++ [xs], by go_num, by simp; omega, HA5.out, RdSt.mono ((HR2.out.grow ((Ext.refl _).alloc _)).far8 HB5.out hbr hw0) (by omega), (HK2.out.alloc _).far8 HB5.out⟩
      case measure => simp [intOf]; omega
    · obtain rfl : j = 0 := by omega
      go_wp2_with fail
      refine (pick_any w0 br (N + 41) 14 _ (by omega) (by omega) (by omega) (HRr.out.mono (by omega))).mono ?_
      rintro e W2 ⟨y, y0, y1, rfl, hR2, hK2⟩
      have HR2 := hide hR2
      have HK2 := hide (HKr.out.trans hK2)
      have HA2 := hide (HA.out.keep hK2 (fun k hk => by omega))
      have hsz2 := hK2.size
      clear hR2 hK2
      by_cases hy0 : y = 0
      · subst hy0
        go_wp2_with fail
        refine (anyClause_any w0 br (N + 42) n _ hn1 hn (by omega) (HR2.out.mono (by omega))).mono ?_
        rintro e W3 ⟨v3, xs, rfl, hA3, hxl, -, hR3, hK3⟩
        obtain ⟨A3, c3, rfl, hlc3, -⟩ := LayApp.form hA3
        have HR3 := hide hR3
        have HK3 := hide (HK2.out.trans hK3)
        have HC3 := hide (LayApp.mono hA3 (b1 := W.heap.size) (by omega))
        have HA3 := hide (HA2.out.keep hK3 (fun k hk => by omega))
        have hsz3 := hK3.size
        clear hR3 hK3 hA3
        go_wp2_with (at_builtin; go_must (refine wpList_appKA _ rfl _ _ rfl 4 W.heap.size (.slice A1 cls.length c1) cls xs A3 c3 W3.heap.size 0 rfl rfl (HA3.out.ext ((Ext.refl W3).alloc _)) (by simp) (World.cell?_alloc_at _ _ _ _ rfl) (LayApp.ext HC3.out ((Ext.refl W3).alloc _)) (by omega) (by omega) (by simp; omega) ?_); intro v' W5 hA5 hb5; have HA5 := hide hA5; have HB5 := hide hb5; clear hA5 hb5)
        go_ret
        exact ⟨_, cls ++ [xs], rfl, HA5.out, by simp; omega, RdSt.mono ((HR3.out.grow ((Ext.refl _).alloc _)).far8 HB5.out hbr hw0) (by omega), (HK3.out.alloc _).far8 HB5.out⟩
      · have hb0 : (y == 0) = false := by simp [hy0]
        go_wp2_with fail
        go_ret
        exact ⟨_, cls, rfl, HA2.out, by omega, HR2.out.mono (by omega), HK2.out⟩
/-- A model and clauses came. -/
def DclsGot (w : World) (e : Ending) (W' : World) : Prop :=
  ∃ vd vc vl ds cs cls, e = .returned (.tuple #[.agg #[vd, vc], vl]) ∧ SInts W' vd ds ∧ SCons W' vc cs ∧ SCls W' vl cls ∧ 1 ≤ ds.length ∧ ds.length ≤ 4 ∧ cls.length ≤ 5 ∧ Ext w W'
set_option maxRecDepth 100000 in
set_option maxHeartbeats 4000000 in
theorem DrawPropagateClauses_any (v : Value) (nb : Nat) (w : World) (hB : SBytes w v nb) : Calls Tryz.prog 4 #[v] w (DclsGot w) := by
  have HB := hide hB
  obtain ⟨A, c, rfl, -⟩ := hB
  go_enter Tryz.func4, Tryz.ntmps4
  go_wp2_with fail
  refine (newReader_any w _ _ nb HB.out ((Ext.refl w).alloc _)).mono ?_
  rintro e W1 ⟨br, rfl, hR1, hx1, hbr⟩
  have hbr : w.heap.size + 1 ≤ br := by simpa using hbr
  have hrb1 : RB w.heap.size 2 W1 := by
    refine RB.keep (S := fun _ => True) ⟨by simp, fun i => World.frozen?_alloc_new _ _ _ _, fun i hi => ?_⟩ (hx1.keep _) trivial
    obtain rfl | rfl : i = 0 ∨ i = 1 := by omega
    all_goals exact ⟨_, World.cell?_alloc_at _ _ _ _ rfl⟩
  have hbrl := hR1.lt
  have HX1 := hide (((Ext.refl w).alloc _).trans hx1)
  have HR1 := hide hR1
  have HRB1 := hide hrb1
  clear hR1 hx1 hrb1
  go_wp2_with fail
  refine (anyModel_any w br 0 _ (by omega) HR1.out).mono ?_
  rintro e W2 ⟨dv, cv, n, cs, B, rfl, hmf, hcs, hR2, hK2⟩
  obtain ⟨g, cap, rfl, -, -, -⟩ := hmf.ds.form
  obtain ⟨Ac, ec, rfl, -⟩ := hmf.ca.form
  have hn1 := hmf.n1
  have hn4 := hmf.n4
  have hs2 := hK2.size
  have HMF2 := hide hmf
  have HR2 := hide hR2
  have HK2 := hide hK2
  have HRB2 := hide (HRB1.out.keep hK2 (by omega))
  clear hmf hR2 hK2
  go_upto_region 3 with fail
  obtain ⟨W3, hW3⟩ : ∃ W3, W3 = W2.alloc (.cells #[.slice (some ⟨g, 0, none⟩) n cap, .slice Ac cs.length ec] 26) := ⟨_, rfl⟩
  have hx3 : Ext W2 W3 := by rw [hW3]; exact (Ext.refl W2).alloc _
  have m0 : W3.cell? ⟨W2.heap.size, 0, none⟩ = some (.slice (some ⟨g, 0, none⟩) n cap) := by rw [hW3]; go_simp
  have m1 : W3.cell? ⟨W2.heap.size, 1, none⟩ = some (.slice Ac cs.length ec) := by rw [hW3]; go_simp
  have hs3 : W2.heap.size < W3.heap.size := by rw [hW3]; simp
  rw [← hW3]
  clear hW3
  have HX3 := hide hx3
  clear hx3
  refine wp_region_any (by kernel_rfl) ?_
  change wpAny _ _ _ _ _ _ _ (World.drew _)
  refine wpAny_take (i := 1) (v := ?_) rfl (by kernel_rfl) (by kernel_rfl) (by kernel_rfl) (by first | exact fun _ _ _ h => h | (rintro _ _ _ ⟨h, _⟩; cases h)) (Or.inl ⟨by rfl, ?hy1⟩) ?_
  case hy1 => intro w; go_simp; with_reducible rfl
  simp only [Act.put, List.getElem_toArray, List.getElem_cons_zero, List.getElem_cons_succ, List.setIfInBounds_toArray, List.set_cons_succ, List.set_cons_zero]
  refine wpAny_take (i := 2) (v := ?_) rfl (by kernel_rfl) (by kernel_rfl) (by kernel_rfl) (by first | exact fun _ _ _ h => h | (rintro _ _ _ ⟨h, _⟩; cases h)) (Or.inl ⟨by rfl, ?hy2⟩) ?_
  case hy2 => intro w; go_simp; with_reducible rfl
  simp only [Act.put, List.getElem_toArray, List.getElem_cons_zero, List.getElem_cons_succ, List.setIfInBounds_toArray, List.set_cons_succ, List.set_cons_zero]
  refine wpAny_flt 0 6 [3, 4, 5] [7] (.agg #[.slice (some ⟨g, 0, none⟩) n cap, .slice Ac cs.length ec]) (fun w => w.cell? ⟨W2.heap.size, 0, none⟩ = some (.slice (some ⟨g, 0, none⟩) n cap) ∧ w.cell? ⟨W2.heap.size, 1, none⟩ = some (.slice Ac cs.length ec)) rfl (by kernel_rfl) rfl (fun _ _ _ h => h) ⟨m0, m1⟩ (And.intro (by rfl) ?hys) ?_
  case hys => intro w' hw'; obtain ⟨hk1, hk2⟩ : w'.cell? ⟨W2.heap.size, 0, none⟩ = some (.slice (some ⟨g, 0, none⟩) n cap) ∧ w'.cell? ⟨W2.heap.size, 1, none⟩ = some (.slice Ac cs.length ec) := hw'; go_simp; all_goals exact rfl
  simp only [nths, nth1, Act.put, List.setIfInBounds_toArray, List.set_cons_succ, List.set_cons_zero]
  refine wpSeqC_cons fun K hK => ?_
  go_simp
  refine hK _ _ ⟨m0, m1⟩ ?_
  clear hK K
  refine wpSeqC_cons fun K hK => ?_
  go_simp
  refine hK _ _ ⟨m0, m1⟩ ?_
  clear hK K
  refine wpSeqC_cons fun K hK => ?_
  go_simp
  refine (clauseList_any w br 504 n _ hn1 hn4 (by omega) ((HR2.out.mono (by omega)).grow (HX3.out.drew))).mono ?_
  rintro e W5 ⟨vl, ls, rfl, hA5, hl5, hR5, hK5⟩
  have hK5 : Keep (fun k => k ≠ br) W3 W5 := (((Ext.refl W3).drew).keep _).trans hK5
  have hmb : W2.heap.size ≠ br := by omega
  have n0 := (hK5.cell (p := ⟨W2.heap.size, 0, none⟩) hs3 hmb).trans m0
  have n1 := (hK5.cell (p := ⟨W2.heap.size, 1, none⟩) hs3 hmb).trans m1
  refine hK _ _ ⟨n0, n1⟩ ?_
  clear hK K
  have hbrw : br < W1.heap.size := hbrl
  have HMF5 := hide ((HMF2.out.ext HX3.out).keep hK5 (fun k hk => by omega))
  have hrb5 := (HRB2.out.keep (HX3.out.keep (fun _ => True)) trivial).keep hK5 (by omega)
  obtain ⟨hrl, u0, u1, r0, r1, z0, z1⟩ := hrb5.two
  have hW3s : (W3.drew).heap.size = W3.heap.size := rfl
  rw [hW3s] at hA5
  obtain ⟨Al, el, rfl, -⟩ := hA5.form
  have HA5 := hide hA5
  have HK5 := hide hK5
  have hs5 := hK5.size
  clear hA5 hK5 hR5 hrb5 m0 m1 n0 n1
  refine wpSeqC_nil ?_
  go_wp2_with fail
  refine bodyPost_ret (v := .tuple #[.agg #[.slice (some ⟨g, 0, none⟩) n cap, .slice Ac cs.length ec], .slice Al ls.length el]) (by simp only [results, Tryz.results4]; go_simp) rfl ?_
  have hk1 : Keep (fun k => k ≠ w.heap.size) W5 ((W5.setCell ⟨w.heap.size, 0, none⟩ (.slice (some ⟨g, 0, none⟩) n cap)).setCell ⟨w.heap.size, 1, none⟩ (.slice Ac cs.length ec)) :=
    ((Keep.refl (fun k => k ≠ w.heap.size) W5).set (p := ⟨w.heap.size, 0, none⟩) (fun _ hh => hh rfl) _).set (p := ⟨w.heap.size, 1, none⟩) (fun _ hh => hh rfl) _
  have hws := HX1.out.size
  obtain ⟨ds, q1, q2, q3⟩ := (HMF5.out.keep hk1 (fun k hk => by have := HR1.out.lt; omega)).model (by omega) (by omega) (by omega)
  refine ⟨_, _, _, ds, cs, ls, rfl, q2, q3, (HA5.out.keep hk1 (fun k hk => by omega)).cls (by omega) (by omega), by omega, by omega, hl5, ?_⟩
  have ht : Keep (fun k => k < w.heap.size) w W5 := ((HX1.out.keep (fun k => k < w.heap.size)).then HK2.out (fun k hk hs => by omega)).then ((HX3.out.keep (fun k => k ≠ br)).trans HK5.out) (fun k hk hs => by omega)
  have ht2 := ht.then hk1 (fun k hk hs => by omega)
  exact ⟨ht2.os, ht2.tape, ht2.output, ht2.size, fun k hk => ht2.block k hk hk⟩
end Go.Proofs.YtgpbmggfpbebmaaGreat
