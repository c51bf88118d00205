/- Draws of the generator: two automata. Printed by genaui.py. -/
import Derived.Test.YtdiedghaoleblaaQ15
import Derived.Test.YtdiedghaoleblaaCpyE
import Derived.Test.YtdiedghaoleblaaAutA
import Derived.Deep.CutBlock
import Derived.Deep.DeepCutAuto
namespace Go.Proofs.Ytdiedghaoleblaa
open Go.RowKit
attribute [local go_sem] evalOf

theorem LN.nil9 {base : Nat} {w : World} {v : Value} {n : Nat} {lo hi : Int} (h : LN base w v n lo hi) : ∀ k c, v = .slice none k c → k = 0 ∧ c = 0 := by
  intro k c e
  rcases h with ⟨rfl, rfl⟩ | h
  · injection e with _ e2 e3; exact ⟨e2.symm, e3.symm⟩
  · obtain ⟨g, cap, rfl, -⟩ := h.form
    injection e with e1
    cases e1
/-- Two automata came. -/
def TGot (w0 : World) (br N : Nat) (W : World) (e : Ending) (W' : World) : Prop :=
  ∃ vn vf n m vn2 vf2 n2 m2, e = .returned (.tuple #[.agg #[vn, vf], .agg #[vn2, vf2]]) ∧ LTab (fun k => W.heap.size ≤ k) (fun l => l ≤ 6) W' vn n (-2) 7 ∧ LN W.heap.size W' vf m (-1) 8 ∧ LTab (fun k => W.heap.size ≤ k) (fun l => l ≤ 6) W' vn2 n2 (-2) 7 ∧ LN W.heap.size W' vf2 m2 (-1) 8 ∧ (n ≤ 16 ∧ n2 ≤ 16 ∧ m ≤ 100 ∧ m2 ≤ 100) ∧ RdSt w0 br N W' ∧ Keep (fun k => k ≠ br) W W'
theorem TGot.done {w0 : World} {br N n m n2 m2 : Nat} {W wr w' : World} {vn vf vn2 vf2 : Value} (ht : LTab (fun k => W.heap.size + 2 ≤ k) (fun l => l ≤ 6) wr vn n (-2) 7) (hf : LN (W.heap.size + 2) wr vf m (-1) 8) (ht2 : LTab (fun k => W.heap.size + 2 ≤ k) (fun l => l ≤ 6) wr vn2 n2 (-2) 7) (hf2 : LN (W.heap.size + 2) wr vf2 m2 (-1) 8)
    (hR : RdSt w0 br N wr) (hK : Keep (fun k => k ≠ br) W wr) (hk : Keep (fun k => k ≠ W.heap.size ∧ k ≠ W.heap.size + 1) wr w') (hbr : br < W.heap.size) (hw : w0.heap.size ≤ W.heap.size) (hn : n ≤ 16 ∧ n2 ≤ 16 ∧ m ≤ 100 ∧ m2 ≤ 100) :
    TGot w0 br N W (.returned (.tuple #[.agg #[vn, vf], .agg #[vn2, vf2]])) w' :=
  ⟨vn, vf, n, m, vn2, vf2, n2, m2, rfl, (ht.keep hk (fun k hk => by omega)).mono (fun k hk => by omega) (fun _ h => h) (Int.le_refl _) (Int.le_refl _), (hf.keep hk (fun k hk => by omega)).base9 (by omega), (ht2.keep hk (fun k hk => by omega)).mono (fun k hk => by omega) (fun _ h => h) (Int.le_refl _) (Int.le_refl _), (hf2.keep hk (fun k hk => by omega)).base9 (by omega), hn,
    hR.keep hk (by omega) (fun k hk => by omega), hK.trans9 hk (fun k hk _ => by omega)⟩
theorem AppI.ln9 {base : Nat} {w : World} {v : Value} {xs : List Int} {lo hi : Int} (h : AppI base w v xs) (hb : ∀ i, i < xs.length → lo ≤ at0 xs i ∧ at0 xs i ≤ hi) : LN base w v xs.length lo hi := by
  have hx : ∀ u ∈ xs.map vI, ∃ x : Int, u = vI x ∧ lo ≤ x ∧ x ≤ hi := fun u hu => by
    obtain ⟨x, hx, rfl⟩ := List.mem_map.1 hu
    obtain ⟨i, hi', e⟩ := List.mem_iff_getElem.1 hx
    have := hb i hi'
    unfold at0 at this
    rw [getD_lt _ _ hi', e] at this
    exact ⟨x, rfl, this⟩
  by_cases hp : 0 < xs.length
  · exact .inr (LR.of_owns h hp hx)
  · rcases h.2 with ⟨e, h0⟩ | ⟨g, cap, cur, h1, h2, k1, h3, h3', k2, k3⟩
    · exact .inl ⟨e, h0⟩
    · exact .inr ⟨g, cap, fun i => cur.getD i (.bool false), h1, h2, h3, h3', ⟨cur, k1, k2, fun i hi => by show _ = some (cur.getD i _); rw [Array.getD_eq_getD_getElem?, Array.getElem?_eq_getElem (by omega)]; rfl⟩, fun i hi => absurd hi (by omega)⟩
theorem LN.set9 {base : Nat} {w : World} {v : Value} {n : Nat} {lo hi : Int} (h : LN base w v n lo hi) (b k : Nat) {x : Int} (hx : lo ≤ x ∧ x ≤ hi) : LN base (w.setCell ⟨b, k, none⟩ (.int .i64 x)) v n lo hi := by
  rcases h with h | ⟨g, cap, f, h1, h2, h3, h3', h4, h5⟩
  · exact .inl h
  · by_cases e : g = b
    · subst e
      refine .inr ⟨g, cap, _, h1, h2, h3, h3', h4.set k (.int .i64 x), fun i hi => ?_⟩
      show ∃ y : Int, (if i = k then _ else f i) = vI y ∧ _
      by_cases ek : i = k
      · rw [if_pos ek]; exact ⟨x, rfl, hx⟩
      · rw [if_neg ek]; exact h5 i hi
    · exact .inr ⟨g, cap, f, h1, h2, h3, h3', ((Keep.refl (fun k => k ≠ b) w).set (p := ⟨b, k, none⟩) (fun _ hh => hh rfl) _).row e h4, h5⟩
def RS.rw9 (D : List Nat) (rs : List (List Int)) (B : World) : RS := ⟨D, fun _ v W => AppRS (fun k => B.heap.size ≤ k) W v rs, fun _ _ _ _ h hx => h.ext hx⟩
def RS.cp9 (D : List Nat) (xs : List Int) (B : World) : RS := ⟨D, fun _ v W => AppI B.heap.size W v xs, fun _ _ _ _ h hx => AppI.ext h hx⟩
/-- A new box of an automaton. -/
def RS.bx9 (D : List Nat) (B : World) : RS := ⟨D, fun _ v W => ∃ g cur, v = .pointer (some ⟨g, 0, none⟩) ∧ B.heap.size ≤ g ∧ W.heap[g]? = some (.cells cur 26 (0, 0)) ∧ W.frozen? ⟨g, 0, none⟩ = false ∧ W.frozen? ⟨g, 1, none⟩ = false ∧ W.cell? ⟨g, 0, none⟩ = some (.slice none 0 0) ∧ W.cell? ⟨g, 1, none⟩ = some (.slice none 0 0),
  fun _ _ _ _ ⟨g, cur, h1, h2, h3, h4, h5, h6, h7⟩ hx => by
    have hl := (Array.getElem?_eq_some_iff.1 h3).1
    exact ⟨g, cur, h1, h2, (hx.block g hl).trans h3, (hx.frz _ _ hl).trans h4, (hx.frz _ _ hl).trans h5, (hx.cells _ _ hl).trans h6, (hx.cells _ _ hl).trans h7⟩⟩
theorem rowIs_ne9 {w : World} {g b n : Nat} {t T : TypeId} {f : Nat → Value} {cur : Array Value} (hr : w.rowIs b t n f) (hg : w.heap[g]? = some (.cells cur T (0, 0))) (hT : T ≠ t) : b ≠ g := by
  rintro rfl
  obtain ⟨cur', k2, -⟩ := hr
  rw [hg] at k2
  injection k2 with k2
  injection k2 with _ k3
  exact hT k3
theorem LTab.ne9 {S P : Nat → Prop} {w : World} {v : Value} {n g : Nat} {lo hi : Int} {cur : Array Value} (h : LTab S P w v n lo hi) (hg : w.heap[g]? = some (.cells cur 26 (0, 0))) : LTab (fun k => S k ∧ k ≠ g) P w v n lo hi := by
  obtain ⟨cells, h1, h2, h3⟩ := h
  refine ⟨cells, h1, fun g' hg' => ⟨h2 g' hg', ?_⟩, fun i hi => ?_⟩
  · rintro rfl
    rcases h1.2 with ⟨e1, -⟩ | ⟨g2, cap, cur2, e1, -, hh, -⟩
    · rw [e1] at hg'; cases hg'
    · rw [e1] at hg'
      have e : g2 = g' := Option.some.inj hg'
      subst e
      rw [hg] at hh
      injection hh with hh
      injection hh with _ e
      exact absurd e (by decide)
  · obtain ⟨cv, a, b, l, cp, m, f, q1, q2, q3, q4, q5, q6, q7⟩ := h3 i hi
    exact ⟨cv, a, b, l, cp, m, f, q1, q2, q3, q4, ⟨q5, rowIs_ne9 q6 hg (by decide)⟩, q6, q7⟩
theorem LN.ne9 {base : Nat} {w : World} {v : Value} {n g : Nat} {lo hi : Int} {cur : Array Value} (h : LN base w v n lo hi) (hg : w.heap[g]? = some (.cells cur 26 (0, 0))) : ∀ k, v.ownBlock = some k → k ≠ g := by
  intro k hk
  rcases h with ⟨rfl, -⟩ | ⟨g', cap, f, rfl, h2, h3, h3', h4, h5⟩
  · cases hk
  · have e : g' = k := Option.some.inj hk
    subst e
    exact rowIs_ne9 h4 hg (by decide)
def RS.vv9 (D : List Nat) (g : List Value → Value → Prop) : RS := ⟨D, fun vs v _ => g vs v, fun _ _ _ _ h _ => h⟩
/-- A row of six in a block from B on. -/
def RwAt9 (br B U : Nat) (w : World) (v : Value) : Prop := ∃ b cp m f, v = .slice (some ⟨b, 0, none⟩) 6 cp ∧ 6 ≤ cp ∧ 6 ≤ m ∧ (B ≤ b ∧ b ≠ U ∧ b ≠ br) ∧ b < w.heap.size ∧ w.rowIs b 3 m f
theorem RwAt9.keep {br B U : Nat} {w w' : World} {v : Value} (h : RwAt9 br B U w v) (hk : Keep (fun k => k ≠ br) w w') : RwAt9 br B U w' v := by
  obtain ⟨b, cp, m, f, h1, h2, h3, h4, h5, h6⟩ := h
  exact ⟨b, cp, m, f, h1, h2, h3, h4, Nat.lt_of_lt_of_le h5 hk.size, hk.row h4.2.2 h6⟩
/-- A cell of such a row. -/
def CeAt9 (br B U : Nat) (w : World) (v : Value) : Prop := ∃ b k m f, v = .pointer (some ⟨b, k, none⟩) ∧ k < m ∧ (B ≤ b ∧ b ≠ U ∧ b ≠ br) ∧ b < w.heap.size ∧ w.rowIs b 3 m f
theorem CeAt9.keep {br B U : Nat} {w w' : World} {v : Value} (h : CeAt9 br B U w v) (hk : Keep (fun k => k ≠ br) w w') : CeAt9 br B U w' v := by
  obtain ⟨b, k, m, f, h1, h2, h3, h4, h5⟩ := h
  exact ⟨b, k, m, f, h1, h2, h3, Nat.lt_of_lt_of_le h4 hk.size, hk.row h3.2.2 h5⟩
set_option maxRecDepth 100000 in
set_option maxHeartbeats 16000000 in
theorem twoAutomata_any (w0 : World) (br N : Nat) (Wa : World) (hN : N ≤ 50000) (hR : RdSt w0 br N Wa) :
    Calls Try.prog 51 #[.pointer (some ⟨br, 0, none⟩)] Wa (TGot w0 br (N + 170) Wa) := by
  have HR := hide hR
  have hbr := hR.lt
  have hw0 := hR.ext.size
  clear hR
  obtain ⟨Wb, hWb⟩ : ∃ Wb, Wb = (Wa.alloc (.cells #[.slice none 0 0, .slice none 0 0] 26)).alloc (.cells #[.slice none 0 0, .slice none 0 0] 26) := ⟨_, rfl⟩
  have hXb : Ext Wa Wb := by rw [hWb]; exact ((Ext.refl Wa).alloc _).alloc _
  have hsb : Wb.heap.size = Wa.heap.size + 2 := by rw [hWb]; simp
  have hx1 : Ext (Wa.alloc (.cells #[.slice none 0 0, .slice none 0 0] 26)) Wb := by rw [hWb]; exact (Ext.refl _).alloc _
  have hb0 : RB Wa.heap.size 2 Wb := by
    refine RB.keep (S := fun _ => True) ⟨by simp, fun i => World.frozen?_alloc_new _ _ _ _, fun i hi => ?_⟩ (hx1.keep _) trivial
    obtain rfl | rfl : i = 0 ∨ i = 1 := by omega
    all_goals exact ⟨_, World.cell?_alloc_at _ _ _ _ rfl⟩
  have hb1 : RB (Wa.heap.size + 1) 2 Wb := by
    rw [hWb, show Wa.heap.size + 1 = (Wa.alloc (.cells #[.slice none 0 0, .slice none 0 0] 26)).heap.size by simp]
    refine ⟨by simp, fun i => World.frozen?_alloc_new _ _ _ _, fun i hi => ?_⟩
    obtain rfl | rfl : i = 0 ∨ i = 1 := by omega
    all_goals exact ⟨_, World.cell?_alloc_at _ _ _ _ rfl⟩
  have HXb := hide hXb
  have HB0 := hide hb0
  have HB1 := hide hb1
  go_enter Try.func51, Try.ntmps51
  go_wp2_with fail
  rw [← hWb]
  clear hWb hXb hx1 hb0 hb1
  refine (anyAutomaton_any w0 br N Wb (by omega) (HR.out.grow HXb.out)).mono ?_
  rintro e Wc ⟨nx, fn, n, m, rfl, hn1, hn16, hm5, hT, hF, hR2, hK2⟩
  obtain ⟨An, cn, rfl, -⟩ := hT.form
  obtain ⟨Af, cf, rfl, -⟩ := hF.form
  have HT := hide hT
  have HF := hide hF
  have HNL := hide hF.nil9
  have HR2 := hide hR2
  have HK2 := hide ((HXb.out.keep (fun k => k ≠ br)).trans hK2)
  have hsc := hK2.size
  have HB0 := hide (HB0.out.keep hK2 (by omega))
  have HB1 := hide (HB1.out.keep hK2 (by omega))
  clear hT hF hR2 hK2
  go_upto_region 2 with fail
  obtain ⟨Wd, hWd⟩ : ∃ x, x = Wc.alloc (.cells #[.slice An n cn, .slice Af m cf] 26) := ⟨_, rfl⟩
  obtain ⟨q4, hq4⟩ : ∃ x, x = Wc.heap.size := ⟨_, rfl⟩
  have hxd : Ext Wc Wd := by rw [hWd]; exact (Ext.refl Wc).alloc _
  have hm0 : Wd.cell? ⟨q4, 0, none⟩ = some (.slice An n cn) := by rw [hWd, hq4]; go_simp
  have hm1 : Wd.cell? ⟨q4, 1, none⟩ = some (.slice Af m cf) := by rw [hWd, hq4]; go_simp
  have hq4l : q4 < Wd.heap.size := by rw [hWd, hq4]; simp
  have hq4b : Wb.heap.size ≤ q4 := by omega
  have hq4n : q4 ≠ br := by omega
  rw [← hWd, ← hq4]
  clear hWd hq4
  go_wp2_with fail
  refine (pick_any w0 br (N + 80) 4 _ (by omega) (by omega) (by omega) (HR2.out.grow hxd)).mono ?_
  rintro e W2 ⟨y, y0, y1, rfl, hR3, hK3⟩
  have hkc : Keep (fun k => k ≠ br) Wc W2 := (hxd.keep _).trans hK3
  have m0 := (hK3.cell (p := ⟨q4, 0, none⟩) hq4l hq4n).trans hm0
  have m1 := (hK3.cell (p := ⟨q4, 1, none⟩) hq4l hq4n).trans hm1
  have hml := Nat.lt_of_lt_of_le hq4l hK3.size
  have HT := hide (HT.out.keep hkc (fun k hk => by omega))
  have HF := hide (HF.out.keep hkc (fun k hk => by omega))
  have HB0 := hide (HB0.out.keep hkc (by omega))
  have HB1 := hide (HB1.out.keep hkc (by omega))
  have HRD := hide hR3
  have HK := hide (HK2.out.trans hkc)
  have hws2 := HK.out.size
  clear hm0 hm1 hkc hxd hR3 hK3
  by_cases hy0 : y = 0
  · subst hy0
    obtain ⟨hrl0, u0, u1, r0, r1, z0, z1⟩ := HB0.out.two
    obtain ⟨hrl1, p0, p1, s0, s1, x0, x1⟩ := HB1.out.two
    have HRF := hide (HRD.out.mono (M := N + 170) (by omega))
    go_wp2_with fail
    go_region
    all_goals
      go_wp2_with fail
      refine bodyPost_ret (v := .tuple #[.agg #[.slice An n cn, .slice Af m cf], .agg #[.slice An n cn, .slice Af m cf]]) (by simp only [results, Try.results51]; go_simp) rfl ?_
      exact TGot.done (HT.out.mono (fun k hk => by omega) (fun _ h => h) (Int.le_refl _) (by omega)) (HF.out.base9 (by omega)) (HT.out.mono (fun k hk => by omega) (fun _ h => h) (Int.le_refl _) (by omega)) (HF.out.base9 (by omega)) HRF.out HK.out (by refine Keep.drew ?_; (repeat (first | refine Keep.set ?_ (fun _ hh => hh.1 rfl) _ | refine Keep.set ?_ (fun _ hh => hh.2 rfl) _)); exact Keep.refl _ _) (by omega) (by omega) ⟨by omega, by omega, by omega, by omega⟩
  · have hb0 : (y == 0) = false := by simp [hy0]
    by_cases hy1 : y = 1
    · subst hy1
      obtain ⟨a, hal, hfl, hN, hF⟩ : ∃ a : Au, a.next.length = n ∧ a.final.length = m ∧ SRows W2 (.slice An n cn) a.next ∧ SInts W2 (.slice Af m cf) a.final ∧ (∀ i, i < a.next.length → ∀ t, t < (rw0 a.next i).length → -2 ≤ at0 (rw0 a.next i) t ∧ at0 (rw0 a.next i) t ≤ 7) ∧ (∀ i, i < a.final.length → -1 ≤ at0 a.final i ∧ at0 a.final i ≤ 8) := by
        obtain ⟨rs, q1, q2, q3⟩ := HT.out.rows (fun l hl => by omega) (by omega) (by omega) (by omega)
        obtain ⟨xs, p1, p2, p3⟩ := HF.out.iv (by omega) (by omega) (by omega)
        exact ⟨⟨rs, xs⟩, q1, p1, q2, p2.ints, fun i hi t ht => by have h := (q3 i (by rw [← q1]; exact hi)).2 t ht; exact ⟨h.1, Int.le_trans h.2 (by omega)⟩, fun i hi => p3 i (by rw [← p1]; exact hi)⟩
      obtain ⟨hF, hAB, hFB⟩ := hF
      have HAN := hide hN
      have HAF := hide hF
      have HAL := hide hal
      have HFL := hide hfl
      have HABd := hide hAB
      have HFBd := hide hFB
      clear hN hF hal hfl hAB hFB
      go_wp2_with fail
      refine (validAutomaton_any _ _ a W2 HAN.out HAF.out).mono ?_
      rintro e wv ⟨rfl, hxv⟩
      have m0 := (hxv.cells _ _ hml).trans m0
      have m1 := (hxv.cells _ _ hml).trans m1
      have hml := Nat.lt_of_lt_of_le hml hxv.size
      have HT := hide (HT.out.ext hxv)
      have HF := hide (HF.out.ext hxv)
      have HB0 := hide (HB0.out.keep (hxv.keep (fun _ => True)) trivial)
      have HB1 := hide (HB1.out.keep (hxv.keep (fun _ => True)) trivial)
      have HRD := hide (HRD.out.grow hxv)
      have HK := hide (HK.out.trans (hxv.keep _))
      have hws2 := HK.out.size
      have HAN := hide (HAN.out.ext hxv)
      have HAF := hide (HAF.out.ext hxv)
      clear hxv
      cases hv : vAut a with
      | false =>
        clear hv
        go_upto_region 10 with fail
        refine wp_region_any (by kernel_rfl) ?_
        change wpAny _ _ _ _ _ _ _ (World.drew _)
        refine wpAny_take (i := 1) (v := ?_) rfl (by kernel_rfl) (by kernel_rfl) (by kernel_rfl) (by first | exact fun _ _ _ h => h | (rintro _ _ _ ⟨h, _⟩; cases h)) (Or.inl ⟨by rfl, ?hy1⟩) ?_
        case hy1 => intro w; go_simp; with_reducible rfl
        simp only [Act.put, List.getElem_toArray, List.getElem_cons_zero, List.getElem_cons_succ, List.setIfInBounds_toArray, List.set_cons_succ, List.set_cons_zero]
        refine wpAny_flt 0 3 [2] [4] (.agg #[.slice An n cn, .slice Af m cf]) (fun w => w.cell? ⟨q4, 0, none⟩ = some (.slice An n cn) ∧ w.cell? ⟨q4, 1, none⟩ = some (.slice Af m cf)) rfl (by kernel_rfl) rfl (fun _ _ _ h => h) ⟨m0, m1⟩ (And.intro (by rfl) ?hys) ?_
        case hys => intro w' hw'; obtain ⟨hk1, hk2⟩ : w'.cell? ⟨q4, 0, none⟩ = some (.slice An n cn) ∧ w'.cell? ⟨q4, 1, none⟩ = some (.slice Af m cf) := hw'; go_simp; all_goals exact rfl
        simp only [nths, nth1, Act.put, List.setIfInBounds_toArray, List.set_cons_succ, List.set_cons_zero]
        refine wpSeqC_cons fun K hK => ?_
        go_simp
        refine (anyAutomaton_any w0 br (N + 81) _ (by omega) (HRD.out.grow (Ext.refl wv).drew)).mono ?_
        rintro e W5 ⟨nx5, fn5, n5, m5, rfl, hn51, hn516, hm55, hT5, hF5, hR5, hK5⟩
        have hK5 : Keep (fun k => k ≠ br) wv W5 := ((Ext.refl wv).drew.keep _).trans hK5
        have hsd : wv.drew.heap.size = wv.heap.size := rfl
        rw [hsd] at hT5 hF5
        obtain ⟨A5, c5, rfl, -⟩ := hT5.form
        obtain ⟨B5, d5, rfl, -⟩ := hF5.form
        refine hK _ _ ⟨(hK5.cell (p := ⟨q4, 0, none⟩) hml hq4n).trans m0, (hK5.cell (p := ⟨q4, 1, none⟩) hml hq4n).trans m1⟩ ?_
        clear hK K
        have HT := hide (HT.out.keep hK5 (fun k hk => by omega))
        have HF := hide (HF.out.keep hK5 (fun k hk => by omega))
        have HT5 := hide (hT5.mono (T := fun k => Wa.heap.size + 2 ≤ k) (Q := fun l => l ≤ 6) (lo' := -2) (hi' := 7) (fun k hk => by omega) (fun _ h => h) (Int.le_refl _) (by omega))
        have HF5 := hide (hF5.base9 (B := Wa.heap.size + 2) (by omega))
        obtain ⟨hrl0, u0, u1, r0, r1, z0, z1⟩ := (HB0.out.keep hK5 (by omega)).two
        obtain ⟨hrl1, p0, p1, s0, s1, x0, x1⟩ := (HB1.out.keep hK5 (by omega)).two
        have HRF := hide (hR5.mono (M := N + 170) (by omega))
        have HKF := hide (HK.out.trans hK5)
        clear hT5 hF5 hR5 hK5 m0 m1
        refine wpSeqC_nil ?_
        go_wp2_with fail
        refine bodyPost_ret (v := .tuple #[.agg #[.slice An n cn, .slice Af m cf], .agg #[.slice A5 n5 c5, .slice B5 m5 d5]]) (by simp only [results, Try.results51]; go_simp) rfl ?_
        exact TGot.done (HT.out.mono (fun k hk => by omega) (fun _ h => h) (Int.le_refl _) (by omega)) (HF.out.base9 (by omega)) HT5.out HF5.out HRF.out HKF.out (by (repeat (first | refine Keep.set ?_ (fun _ hh => hh.1 rfl) _ | refine Keep.set ?_ (fun _ hh => hh.2 rfl) _)); exact Keep.refl _ _) (by omega) (by omega) ⟨by omega, by omega, by omega, by omega⟩
      | true =>
        have h8 := vAut_len hv
        have HAB := hide (fun i (hi : i < a.next.length) => (show (rw0 a.next i).length = 6 ∧ ∀ t, t < (rw0 a.next i).length → -2 ≤ at0 (rw0 a.next i) t ∧ at0 (rw0 a.next i) t ≤ 7 from ⟨(vAut_row hv hi).1, HABd.out i hi⟩))
        have HAP := hide (fun i (hi : i < a.next.length) => (show 0 < (rw0 a.next i).length by rw [(vAut_row hv hi).1]; omega))
        have hn8 : n ≤ 8 := by rw [← HAL.out]; exact h8.2
        clear hv h8
        go_upto_region 7 with fail
        refine wp_region_relT (n := 8) (ts := [8]) (sp := [RS.q [] (fun _ => .pointer (some ⟨q4, 0, none⟩)), RS.q [0] (fun _ => .slice An n cn), RS.rw9 [1] a.next wv, RS.q [] (fun _ => .pointer (some ⟨q4, 1, none⟩)), RS.q [3] (fun _ => .slice Af m cf), RS.cp9 [4] a.final wv, RS.vv9 [2, 5] (fun vs v => v = .agg #[vs.getD 0 undef, vs.getD 1 undef]), RS.bx9 [] wv])
          (fun W => Ext wv W) (by kernel_rfl) (relOK (D := [[], [0], [1], [], [3], [4], [2, 5], []]) rfl (by kernel_rfl) rfl) (by kernel_rfl) (fun W W' h hx => h.trans hx) ((Ext.refl wv).drew) ?steps ?ends
        case steps =>
          refine ⟨?_, ?_, ?_, ?_, ?_, ?_, ?_, ?_, trivial⟩
          · intro V τ W hC hf ht h0
            have s4 : τ 4 = .pointer (some ⟨q4, 0, none⟩) := h0 4 (by kernel_rfl)
            refine Does.val (w' := W) (v := .pointer (some ⟨q4, 0, none⟩)) ?_ ⟨Ext.refl W, rfl⟩
            clear h0 ht hf
            go_simp
          · intro V τ W hC hf ht h0
            have f0 : V 0 = .pointer (some ⟨q4, 0, none⟩) := hf 0 (show 0 ∈ [0] by decide)
            have s18 := (ht 0 (show 0 ∈ [0] by decide) 18 rfl).trans f0
            have c0 := (hC.cells _ _ hml).trans m0
            have c1 := (hC.cells _ _ hml).trans m1
            refine Does.val (w' := W) (v := .slice An n cn) ?_ ⟨Ext.refl W, rfl⟩
            clear h0 ht hf
            go_simp
          · intro V τ W hC hf ht h0
            have f1 : V 1 = .slice An n cn := hf 1 (show 1 ∈ [1] by decide)
            have s19 := (ht 1 (show 1 ∈ [1] by decide) 19 rfl).trans f1
            refine Does.call (w' := W) (f := 65) (args := #[.slice An n cn]) (by go_simp; all_goals (first | exact rfl | (apply And.intro <;> exact rfl))) ?_
            refine (copyRows_any _ a.next _ (HAN.out.ext hC) (by have := HAL.out; omega) HAP.out).mono ?_
            rintro e wa ⟨v', rfl, hA, hxa⟩
            have hC : Ext wv W := hC
            exact ⟨v', rfl, hxa, hA.mono9 (fun k hk => Nat.le_trans hC.size hk)⟩
          · intro V τ W hC hf ht h0
            have s4 : τ 4 = .pointer (some ⟨q4, 0, none⟩) := h0 4 (by kernel_rfl)
            refine Does.val (w' := W) (v := .pointer (some ⟨q4, 1, none⟩)) ?_ ⟨Ext.refl W, rfl⟩
            clear h0 ht hf
            go_simp
          · intro V τ W hC hf ht h0
            have f3 : V 3 = .pointer (some ⟨q4, 1, none⟩) := hf 3 (show 3 ∈ [3] by decide)
            have s21 := (ht 3 (show 3 ∈ [3] by decide) 21 rfl).trans f3
            have c0 := (hC.cells _ _ hml).trans m0
            have c1 := (hC.cells _ _ hml).trans m1
            refine Does.val (w' := W) (v := .slice Af m cf) ?_ ⟨Ext.refl W, rfl⟩
            clear h0 ht hf
            go_simp
          · intro V τ W hC hf ht h0
            have f4 : V 4 = .slice Af m cf := hf 4 (show 4 ∈ [4] by decide)
            have s22 := (ht 4 (show 4 ∈ [4] by decide) 22 rfl).trans f4
            refine Does.call (w' := W) (f := 55) (args := #[.slice Af m cf]) (by go_simp; all_goals (first | exact rfl | (apply And.intro <;> exact rfl))) ?_
            refine (copyIntsE_any _ a.final _ (HAF.out.ext hC) HNL.out).mono ?_
            rintro e wa ⟨v', rfl, hA, hxa⟩
            have hC : Ext wv W := hC
            exact ⟨v', rfl, hxa, AppI.low9 hA hC.size⟩
          · intro V τ W hC hf ht h0
            have f2 := hf 2 (show 2 ∈ [2, 5] by decide)
            have s20 : τ 20 = V 2 := ht 2 (show 2 ∈ [2, 5] by decide) 20 rfl
            have f5 := hf 5 (show 5 ∈ [2, 5] by decide)
            have s23 : τ 23 = V 5 := ht 5 (show 5 ∈ [2, 5] by decide) 23 rfl
            obtain ⟨x2, y2, z2, -⟩ := (show AppRS (fun k => wv.heap.size ≤ k) W (V 2) a.next from f2).form
            obtain ⟨x5, y5, z5, -⟩ := (show AppI wv.heap.size W (V 5) a.final from f5).form
            rw [z2] at s20
            rw [z5] at s23
            refine Does.val (w' := W) (v := .agg #[.slice x2 a.next.length y2, .slice x5 a.final.length y5]) ?_ ⟨Ext.refl W, by show _ = Value.agg #[V 2, V 5]; rw [z2, z5]⟩
            clear h0 ht hf f2 f5 z2 z5
            go_simp
          · intro V τ W hC hf ht h0
            have hC : Ext wv W := hC
            refine Does.val (w' := W.alloc (.cells #[.slice none 0 0, .slice none 0 0] 26)) (v := .pointer (some ⟨W.heap.size, 0, none⟩)) (by go_simp) ⟨(Ext.refl W).alloc _, W.heap.size, _, rfl, hC.size, World.alloc_heap_new W _, by go_simp, by go_simp, by go_simp, by go_simp⟩
        case ends =>
          intro V W hC hf
          have e0 : V 0 = .pointer (some ⟨q4, 0, none⟩) := hf 0 (by omega)
          have e1 : V 1 = .slice An n cn := hf 1 (by omega)
          have e2 := hf 2 (by omega)
          have e3 : V 3 = .pointer (some ⟨q4, 1, none⟩) := hf 3 (by omega)
          have e4 : V 4 = .slice Af m cf := hf 4 (by omega)
          have e5 := hf 5 (by omega)
          have e6 : V 6 = .agg #[V 2, V 5] := hf 6 (by omega)
          have e7 := hf 7 (by omega)
          clear hf
          obtain ⟨q5, cur5, e7, hq52, hg5, zz0, zz1, yy0, yy1⟩ := (show ∃ g cur, V 7 = .pointer (some ⟨g, 0, none⟩) ∧ wv.heap.size ≤ g ∧ W.heap[g]? = some (.cells cur 26 (0, 0)) ∧ W.frozen? ⟨g, 0, none⟩ = false ∧ W.frozen? ⟨g, 1, none⟩ = false ∧ W.cell? ⟨g, 0, none⟩ = some (.slice none 0 0) ∧ W.cell? ⟨g, 1, none⟩ = some (.slice none 0 0) from e7)
          obtain ⟨A5, c5, v2, -⟩ := (show AppRS (fun k => wv.heap.size ≤ k) W (V 2) a.next from e2).form
          rw [HAL.out] at v2
          have hr2 : AppRS (fun k => wv.heap.size ≤ k) W (V 2) a.next := e2
          have hr5 : AppI wv.heap.size W (V 5) a.final := e5
          obtain ⟨B5, d5, v5, -⟩ := hr5.form
          rw [HFL.out] at v5
          rw [v2] at hr2
          rw [v5] at hr5
          rw [v2, v5] at e6
          simp only [List.take_succ_cons, List.take_zero, putAll, Act.put, List.setIfInBounds_toArray, List.set_cons_succ, List.set_cons_zero, Nat.reduceAdd, e0, e1, v2, e3, e4, v5, e6, e7]
          simp only [nths, nth1]
          have HRW := hide hr2
          have HR5 := hide hr5
          have hXW : Ext wv W := hC
          have HXW := hide hXW
          clear e0 e1 e2 e3 e4 e5 e6 e7 v2 v5 hr2 hr5 hXW hC
          have hq5l : q5 < W.heap.size := (Array.getElem?_eq_some_iff.1 hg5).1
          go_upto_region 8 with fail
          obtain ⟨W3, hW3⟩ : ∃ x, x = (W.setCell ⟨q5, 0, none⟩ (.slice A5 n c5)).setCell ⟨q5, 1, none⟩ (.slice B5 m d5) := ⟨_, rfl⟩
          have hx3 : Ext wv W3 := by rw [hW3]; exact (HXW.out.set (p := ⟨q5, 0, none⟩) hq52 _).set (p := ⟨q5, 1, none⟩) hq52 _
          have hk3 : Keep (fun k => k ≠ q5) W W3 := by rw [hW3]; exact ((Keep.refl _ _).set (p := ⟨q5, 0, none⟩) (fun _ hh => hh rfl) _).set (p := ⟨q5, 1, none⟩) (fun _ hh => hh rfl) _
          have n0 : W3.cell? ⟨q5, 0, none⟩ = some (.slice A5 n c5) := by rw [hW3]; exact (World.cell?_setCell_other _ _ _ _ (by intro e; injection e with e1 e2; omega)).trans (World.cell?_setCell_same' _ _ _ (by rw [yy0]; rfl))
          have n1 : W3.cell? ⟨q5, 1, none⟩ = some (.slice B5 m d5) := by rw [hW3]; exact World.cell?_setCell_same' _ _ _ (by rw [World.cell?_setCell_other _ _ _ _ (by intro e; injection e with e1 e2; omega), yy1]; rfl)
          have hn5 : q5 < W3.heap.size := Nat.lt_of_lt_of_le hq5l hk3.size
          have HL3 := hide ((((HRW.out.ltabP (P := fun l => l = 6) (lo := -2) (hi := 7) HAB.out).ne9 hg5).mono (T := fun k => wv.heap.size ≤ k ∧ k ≠ q5) (Q := fun l => l = 6) (fun k hk => hk) (fun _ h => h) (Int.le_refl _) (Int.le_refl _)).keep hk3 (fun k hk => hk.2))
          have HI3 := hide ((AppI.ln9 HR5.out HFBd.out).keepO hk3 (LN.ne9 (AppI.ln9 HR5.out HFBd.out) hg5))
          rw [HAL.out] at HL3
          rw [HFL.out] at HI3
          rw [← hW3]
          clear hW3 hg5 zz0 zz1 yy0 yy1
          have HX3 := hide hx3
          have hs3 := HX3.out.size
          clear hx3 hk3
          obtain ⟨g5, cap5, _, _, _, _, _, hv5, hnc5, -⟩ := HL3.out.row (i := 0) (by omega)
          injection hv5 with hv5 _ hc5
          subst hv5 hc5
          have HRD3 := hide (HRD.out.grow HX3.out)
          have hq5br : q5 ≠ br := by omega
          refine wp_region_relKT (Rl := Keep (fun k => k ≠ br)) (n := 19) (ts := [19]) (sp := [RK.q [] (fun _ => .pointer (some ⟨q5, 0, none⟩)), RK.q [0] (fun _ => .slice (some ⟨g5, 0, none⟩) n c5), RK.q [] (fun _ => .pointer (some ⟨br, 0, none⟩)), RK.q [] (fun _ => .pointer (some ⟨q5, 0, none⟩)), RK.q [3] (fun _ => .slice (some ⟨g5, 0, none⟩) n c5), RK.q [4] (fun _ => .int .i64 n), RK.p [2, 5] (fun _ v => ∃ z : Int, 0 ≤ z ∧ z ≤ n - 1 ∧ v = .int .i64 z), RK.p [1, 6] (fun _ v => ∃ s : Nat, s < n ∧ v = .pointer (some ⟨g5, s, none⟩)), ⟨[7], fun _ v w => RwAt9 br wv.heap.size q5 w v, fun _ _ _ _ h hk => h.keep hk⟩, RK.q [] (fun _ => .pointer (some ⟨br, 0, none⟩)), RK.p [9] (fun _ v => ∃ z : Int, 0 ≤ z ∧ z ≤ 5 ∧ v = .int .i64 z), RK.q [] (fun _ => .pointer (some ⟨br, 0, none⟩)), RK.q [] (fun _ => .pointer (some ⟨q5, 0, none⟩)), RK.q [12] (fun _ => .slice (some ⟨g5, 0, none⟩) n c5), RK.q [13] (fun _ => .int .i64 n), RK.q [14] (fun _ => .int .i64 (n + 1 : Nat)), RK.p [11, 15] (fun _ v => ∃ z : Int, 0 ≤ z ∧ z ≤ n ∧ v = .int .i64 z), RK.p [16] (fun _ v => ∃ z : Int, -1 ≤ z ∧ z ≤ 7 ∧ v = .int .i64 z), ⟨[8, 10], fun _ v w => CeAt9 br wv.heap.size q5 w v, fun _ _ _ _ h hk => h.keep hk⟩])
            (RdCn w0 br (N + 81) 19 W3) (by kernel_rfl) (relOKK (D := [[], [0], [], [], [3], [4], [2, 5], [1, 6], [7], [], [9], [], [], [12], [13], [14], [11, 15], [16], [8, 10]]) rfl (by kernel_rfl) rfl) (by kernel_rfl) (fun m w h => by exact h.le) (fun w => by exact Keep.refl _ _) (RdCn.start 19 HRD3.out) ?steps ?ends
          case steps =>
            refine ⟨?_, ?_, ?_, ?_, ?_, ?_, ?_, ?_, ?_, ?_, ?_, ?_, ?_, ?_, ?_, ?_, ?_, ?_, ?_, trivial⟩
            · intro m V τ W hC hf ht h0
              have s5 : τ 5 = .pointer (some ⟨q5, 0, none⟩) := h0 5 (by kernel_rfl)
              refine Does.val (w' := W) (v := .pointer (some ⟨q5, 0, none⟩)) ?_ ⟨(by exact Keep.refl _ _), (by exact hC.le), rfl⟩
              clear h0 ht hf
              go_simp
            · intro m V τ W hC hf ht h0
              have f0 : V 0 = .pointer (some ⟨q5, 0, none⟩) := hf 0 (show 0 ∈ [0] by decide)
              have s25 := (ht 0 (show 0 ∈ [0] by decide) 25 rfl).trans f0
              have k0 := (hC.kp.cell (p := ⟨q5, 0, none⟩) hn5 hq5br).trans n0
              refine Does.val (w' := W) (v := .slice (some ⟨g5, 0, none⟩) n c5) ?_ ⟨(by exact Keep.refl _ _), (by exact hC.le), rfl⟩
              clear h0 ht hf
              go_simp
            · intro m V τ W hC hf ht h0
              have s0 : τ 0 = .pointer (some ⟨br, 0, none⟩) := h0 0 (by kernel_rfl)
              refine Does.val (w' := W) (v := .pointer (some ⟨br, 0, none⟩)) ?_ ⟨(by exact Keep.refl _ _), (by exact hC.le), rfl⟩
              clear h0 ht hf
              go_simp
            · intro m V τ W hC hf ht h0
              have s5 : τ 5 = .pointer (some ⟨q5, 0, none⟩) := h0 5 (by kernel_rfl)
              refine Does.val (w' := W) (v := .pointer (some ⟨q5, 0, none⟩)) ?_ ⟨(by exact Keep.refl _ _), (by exact hC.le), rfl⟩
              clear h0 ht hf
              go_simp
            · intro m V τ W hC hf ht h0
              have f3 : V 3 = .pointer (some ⟨q5, 0, none⟩) := hf 3 (show 3 ∈ [3] by decide)
              have s28 := (ht 3 (show 3 ∈ [3] by decide) 28 rfl).trans f3
              have k0 := (hC.kp.cell (p := ⟨q5, 0, none⟩) hn5 hq5br).trans n0
              refine Does.val (w' := W) (v := .slice (some ⟨g5, 0, none⟩) n c5) ?_ ⟨(by exact Keep.refl _ _), (by exact hC.le), rfl⟩
              clear h0 ht hf
              go_simp
            · intro m V τ W hC hf ht h0
              have f4 : V 4 = .slice (some ⟨g5, 0, none⟩) n c5 := hf 4 (show 4 ∈ [4] by decide)
              have s29 := (ht 4 (show 4 ∈ [4] by decide) 29 rfl).trans f4
              refine Does.val (w' := W) (v := .int .i64 n) ?_ ⟨(by exact Keep.refl _ _), (by exact hC.le), rfl⟩
              clear h0 ht hf
              go_simp
            · intro m V τ W hC hf ht h0
              have f2 : V 2 = .pointer (some ⟨br, 0, none⟩) := hf 2 (show 2 ∈ [2, 5] by decide)
              have s27 := (ht 2 (show 2 ∈ [2, 5] by decide) 27 rfl).trans f2
              have f5 : V 5 = .int .i64 n := hf 5 (show 5 ∈ [2, 5] by decide)
              have s30 := (ht 5 (show 5 ∈ [2, 5] by decide) 30 rfl).trans f5
              obtain ⟨M, hR, hM, hnext⟩ := hC.step (by omega)
              refine Does.call (w' := W) (f := 63) (args := #[.pointer (some ⟨br, 0, none⟩), .int .i64 n]) (by go_simp; all_goals (first | exact rfl | (apply And.intro <;> exact rfl))) ?_
              refine (pick_any w0 br M (n) W (by omega) (by omega) hM hR).mono ?_
              rintro e wa ⟨z, z0, z1, rfl, hR1, hK1⟩
              exact ⟨_, rfl, hK1, hnext _ hR1 hK1, z, by omega, by omega, rfl⟩
            · intro m V τ W hC hf ht h0
              have f1 : V 1 = .slice (some ⟨g5, 0, none⟩) n c5 := hf 1 (show 1 ∈ [1, 6] by decide)
              have s26 := (ht 1 (show 1 ∈ [1, 6] by decide) 26 rfl).trans f1
              have f6 : ∃ z : Int, 0 ≤ z ∧ z ≤ n - 1 ∧ V 6 = .int .i64 z := hf 6 (show 6 ∈ [1, 6] by decide)
              have s31 : τ 31 = V 6 := ht 6 (show 6 ∈ [1, 6] by decide) 31 rfl
              obtain ⟨z, z0, z1, hz⟩ := f6
              rw [hz] at s31
              obtain ⟨s, rfl⟩ : ∃ s : Nat, z = s := ⟨z.toNat, by omega⟩
              have hs6 : (s : Int) < n := by omega
              have hs7 : s < n := by omega
              refine Does.val (w' := W) (v := .pointer (some ⟨g5, s, none⟩)) ?_ ⟨Keep.refl _ _, hC.le, s, hs7, rfl⟩
              clear h0 ht hf
              go_simp
            · intro m V τ W hC hf ht h0
              have f7 : ∃ s : Nat, s < n ∧ V 7 = .pointer (some ⟨g5, s, none⟩) := hf 7 (show 7 ∈ [7] by decide)
              have s32 : τ 32 = V 7 := ht 7 (show 7 ∈ [7] by decide) 32 rfl
              obtain ⟨s, hs, hz⟩ := f7
              rw [hz] at s32
              obtain ⟨g', cap', b, l, cp, m', f, hv, hnc, hSg, hgl, hgb, hgc, hgz, rfl, hlc, hlm, hSb, hbl, hrow, hf9⟩ := (HL3.out.keep hC.kp (fun k hk => by omega)).row (i := s) hs
              injection hv with hv _ _
              injection hv with hv
              injection hv with hv _ _
              subst hv
              refine Does.val (w' := W) (v := .slice (some ⟨b, 0, none⟩) 6 cp) ?_ ⟨Keep.refl _ _, hC.le, b, cp, m', f, rfl, hlc, hlm, ⟨(show wv.heap.size ≤ b ∧ b ≠ q5 from hSb).1, (show wv.heap.size ≤ b ∧ b ≠ q5 from hSb).2, by have := (show wv.heap.size ≤ b ∧ b ≠ q5 from hSb).1; omega⟩, hbl, hrow⟩
              clear h0 ht hf hf9 hrow
              go_simp
            · intro m V τ W hC hf ht h0
              have s0 : τ 0 = .pointer (some ⟨br, 0, none⟩) := h0 0 (by kernel_rfl)
              refine Does.val (w' := W) (v := .pointer (some ⟨br, 0, none⟩)) ?_ ⟨(by exact Keep.refl _ _), (by exact hC.le), rfl⟩
              clear h0 ht hf
              go_simp
            · intro m V τ W hC hf ht h0
              have f9 : V 9 = .pointer (some ⟨br, 0, none⟩) := hf 9 (show 9 ∈ [9] by decide)
              have s34 := (ht 9 (show 9 ∈ [9] by decide) 34 rfl).trans f9
              obtain ⟨M, hR, hM, hnext⟩ := hC.step (by omega)
              refine Does.call (w' := W) (f := 63) (args := #[.pointer (some ⟨br, 0, none⟩), .int .i64 6]) (by go_simp; all_goals (first | exact rfl | (apply And.intro <;> exact rfl))) ?_
              refine (pick_any w0 br M (6) W (by omega) (by omega) hM hR).mono ?_
              rintro e wa ⟨z, z0, z1, rfl, hR1, hK1⟩
              exact ⟨_, rfl, hK1, hnext _ hR1 hK1, z, by omega, by omega, rfl⟩
            · intro m V τ W hC hf ht h0
              have s0 : τ 0 = .pointer (some ⟨br, 0, none⟩) := h0 0 (by kernel_rfl)
              refine Does.val (w' := W) (v := .pointer (some ⟨br, 0, none⟩)) ?_ ⟨(by exact Keep.refl _ _), (by exact hC.le), rfl⟩
              clear h0 ht hf
              go_simp
            · intro m V τ W hC hf ht h0
              have s5 : τ 5 = .pointer (some ⟨q5, 0, none⟩) := h0 5 (by kernel_rfl)
              refine Does.val (w' := W) (v := .pointer (some ⟨q5, 0, none⟩)) ?_ ⟨(by exact Keep.refl _ _), (by exact hC.le), rfl⟩
              clear h0 ht hf
              go_simp
            · intro m V τ W hC hf ht h0
              have f12 : V 12 = .pointer (some ⟨q5, 0, none⟩) := hf 12 (show 12 ∈ [12] by decide)
              have s37 := (ht 12 (show 12 ∈ [12] by decide) 37 rfl).trans f12
              have k0 := (hC.kp.cell (p := ⟨q5, 0, none⟩) hn5 hq5br).trans n0
              refine Does.val (w' := W) (v := .slice (some ⟨g5, 0, none⟩) n c5) ?_ ⟨(by exact Keep.refl _ _), (by exact hC.le), rfl⟩
              clear h0 ht hf
              go_simp
            · intro m V τ W hC hf ht h0
              have f13 : V 13 = .slice (some ⟨g5, 0, none⟩) n c5 := hf 13 (show 13 ∈ [13] by decide)
              have s38 := (ht 13 (show 13 ∈ [13] by decide) 38 rfl).trans f13
              refine Does.val (w' := W) (v := .int .i64 n) ?_ ⟨(by exact Keep.refl _ _), (by exact hC.le), rfl⟩
              clear h0 ht hf
              go_simp
            · intro m V τ W hC hf ht h0
              have f14 : V 14 = .int .i64 n := hf 14 (show 14 ∈ [14] by decide)
              have s39 := (ht 14 (show 14 ∈ [14] by decide) 39 rfl).trans f14
              have hnw : IntKind.i64.wrap ((n : Int) + 1) = ((n + 1 : Nat) : Int) := by rw [IntWalk.i64_in _ (by omega)]; push_cast; rfl
              refine Does.val (w' := W) (v := .int .i64 (n + 1 : Nat)) ?_ ⟨(by exact Keep.refl _ _), (by exact hC.le), rfl⟩
              clear h0 ht hf
              go_simp
            · intro m V τ W hC hf ht h0
              have f11 : V 11 = .pointer (some ⟨br, 0, none⟩) := hf 11 (show 11 ∈ [11, 15] by decide)
              have s36 := (ht 11 (show 11 ∈ [11, 15] by decide) 36 rfl).trans f11
              have f15 : V 15 = .int .i64 (n + 1 : Nat) := hf 15 (show 15 ∈ [11, 15] by decide)
              have s40 := (ht 15 (show 15 ∈ [11, 15] by decide) 40 rfl).trans f15
              obtain ⟨M, hR, hM, hnext⟩ := hC.step (by omega)
              refine Does.call (w' := W) (f := 63) (args := #[.pointer (some ⟨br, 0, none⟩), .int .i64 (n + 1 : Nat)]) (by go_simp; all_goals (first | exact rfl | (apply And.intro <;> exact rfl))) ?_
              refine (pick_any w0 br M ((n + 1 : Nat)) W (by omega) (by omega) hM hR).mono ?_
              rintro e wa ⟨z, z0, z1, rfl, hR1, hK1⟩
              exact ⟨_, rfl, hK1, hnext _ hR1 hK1, z, by omega, by omega, rfl⟩
            · intro m V τ W hC hf ht h0
              have f16 : ∃ z : Int, 0 ≤ z ∧ z ≤ n ∧ V 16 = .int .i64 z := hf 16 (show 16 ∈ [16] by decide)
              have s41 : τ 41 = V 16 := ht 16 (show 16 ∈ [16] by decide) 41 rfl
              obtain ⟨z, z0, z1, hz⟩ := f16
              rw [hz] at s41
              have hzw : IntKind.i64.wrap (z - 1) = z - 1 := IntWalk.i64_in _ (by omega)
              refine Does.val (w' := W) (v := .int .i64 (z - 1)) ?_ ⟨Keep.refl _ _, hC.le, z - 1, by omega, by omega, rfl⟩
              clear h0 ht hf
              go_simp
            · intro m V τ W hC hf ht h0
              have f8 : RwAt9 br wv.heap.size q5 W (V 8) := hf 8 (show 8 ∈ [8, 10] by decide)
              have s33 : τ 33 = V 8 := ht 8 (show 8 ∈ [8, 10] by decide) 33 rfl
              have f10 : ∃ z : Int, 0 ≤ z ∧ z ≤ 5 ∧ V 10 = .int .i64 z := hf 10 (show 10 ∈ [8, 10] by decide)
              have s35 : τ 35 = V 10 := ht 10 (show 10 ∈ [8, 10] by decide) 35 rfl
              obtain ⟨b, cp, m', f, hz8, hlc, hlm, hSb, hbl, hrow⟩ := f8
              obtain ⟨z, z0, z1, hz⟩ := f10
              rw [hz] at s35
              rw [hz8] at s33
              obtain ⟨k, rfl⟩ : ∃ k : Nat, z = k := ⟨z.toNat, by omega⟩
              have hk6 : (k : Int) < 6 := by omega
              have hk7 : k < 6 := by omega
              refine Does.val (w' := W) (v := .pointer (some ⟨b, k, none⟩)) ?_ ⟨Keep.refl _ _, hC.le, b, k, m', f, rfl, by omega, hSb, hbl, hrow⟩
              clear h0 ht hf hrow
              go_simp
          case ends =>
            intro V W hC hf
            have e0 : V 0 = .pointer (some ⟨q5, 0, none⟩) := hf 0 (by omega)
            have e1 : V 1 = .slice (some ⟨g5, 0, none⟩) n c5 := hf 1 (by omega)
            have e2 : V 2 = .pointer (some ⟨br, 0, none⟩) := hf 2 (by omega)
            have e3 : V 3 = .pointer (some ⟨q5, 0, none⟩) := hf 3 (by omega)
            have e4 : V 4 = .slice (some ⟨g5, 0, none⟩) n c5 := hf 4 (by omega)
            have e5 : V 5 = .int .i64 n := hf 5 (by omega)
            have e6 : ∃ z : Int, 0 ≤ z ∧ z ≤ n - 1 ∧ V 6 = .int .i64 z := hf 6 (by omega)
            have e7 : ∃ s : Nat, s < n ∧ V 7 = .pointer (some ⟨g5, s, none⟩) := hf 7 (by omega)
            have e8 : RwAt9 br wv.heap.size q5 W (V 8) := hf 8 (by omega)
            have e9 : V 9 = .pointer (some ⟨br, 0, none⟩) := hf 9 (by omega)
            have e10 : ∃ z : Int, 0 ≤ z ∧ z ≤ 5 ∧ V 10 = .int .i64 z := hf 10 (by omega)
            have e11 : V 11 = .pointer (some ⟨br, 0, none⟩) := hf 11 (by omega)
            have e12 : V 12 = .pointer (some ⟨q5, 0, none⟩) := hf 12 (by omega)
            have e13 : V 13 = .slice (some ⟨g5, 0, none⟩) n c5 := hf 13 (by omega)
            have e14 : V 14 = .int .i64 n := hf 14 (by omega)
            have e15 : V 15 = .int .i64 (n + 1 : Nat) := hf 15 (by omega)
            have e16 : ∃ z : Int, 0 ≤ z ∧ z ≤ n ∧ V 16 = .int .i64 z := hf 16 (by omega)
            have e17 : ∃ z : Int, -1 ≤ z ∧ z ≤ 7 ∧ V 17 = .int .i64 z := hf 17 (by omega)
            have e18 : CeAt9 br wv.heap.size q5 W (V 18) := hf 18 (by omega)
            clear hf
            obtain ⟨hRf, hKf⟩ := hC.fin
            obtain ⟨z6, -, -, e6⟩ := e6
            obtain ⟨s7, hs7, e7⟩ := e7
            obtain ⟨b8, cp8, m8, f8, e8, -⟩ := e8
            obtain ⟨z10, -, -, e10⟩ := e10
            obtain ⟨z16, -, -, e16⟩ := e16
            obtain ⟨z, zz0, zz1, e17⟩ := e17
            obtain ⟨b, k, m', f, e18, hkm, hbb, hbl, hrw⟩ := e18
            simp only [List.take_succ_cons, List.take_zero, putAll, Act.put, List.setIfInBounds_toArray, List.set_cons_succ, List.set_cons_zero, Nat.reduceAdd, e0, e1, e2, e3, e4, e5, e6, e7, e8, e9, e10, e11, e12, e13, e14, e15, e16, e17, e18]
            simp only [nths, nth1]
            clear e0 e1 e2 e3 e4 e5 e6 e7 e8 e9 e10 e11 e12 e13 e14 e15 e16 e17 e18
            have hkc := hrw.cell (i := k) hkm
            have hkz := hrw.frozen k
            obtain ⟨w9, hw9⟩ : ∃ w9, w9 = W.setCell ⟨b, k, none⟩ (.int .i64 z) := ⟨_, rfl⟩
            have hk9 : Keep (fun k => k ≠ b) W w9 := by rw [hw9]; exact (Keep.refl _ _).set (p := ⟨b, k, none⟩) (fun _ hh => hh rfl) _
            have hsW := hKf.size
            have hs9 := hk9.size
            have hv3 : Keep (fun k => k ≠ br) wv W3 := HX3.out.keep _
            have hva : Keep (fun k => k ≠ br) wv W := hv3.trans hKf
            have m0 := (hk9.cell (p := ⟨q4, 0, none⟩) (by show q4 < W.heap.size; omega) (by show q4 ≠ b; omega)).trans ((hva.cell (p := ⟨q4, 0, none⟩) hml hq4n).trans m0)
            have m1 := (hk9.cell (p := ⟨q4, 1, none⟩) (by show q4 < W.heap.size; omega) (by show q4 ≠ b; omega)).trans ((hva.cell (p := ⟨q4, 1, none⟩) hml hq4n).trans m1)
            have n0 := (hk9.cell (p := ⟨q5, 0, none⟩) (by show q5 < W.heap.size; omega) (by show q5 ≠ b; omega)).trans ((hKf.cell (p := ⟨q5, 0, none⟩) hn5 hq5br).trans n0)
            have n1 := (hk9.cell (p := ⟨q5, 1, none⟩) (by show q5 < W.heap.size; omega) (by show q5 ≠ b; omega)).trans ((hKf.cell (p := ⟨q5, 1, none⟩) hn5 hq5br).trans n1)
            have HT9 := hide ((((HT.out.lt).keep hva (fun k hk => by omega)).keep hk9 (fun k hk => by omega)).mono (T := fun k => Wa.heap.size + 2 ≤ k) (Q := fun l => l ≤ 6) (lo' := -2) (hi' := 7) (fun k hk => by omega) (fun _ h => h) (Int.le_refl _) (by omega))
            have HF9 := hide (((HF.out.keep hva (fun k hk => by omega)).keepO hk9 (fun g hg => by have := HF.out.lt9 g hg; omega)).base9 (B := Wa.heap.size + 2) (by omega))
            have HT5 := hide (show LTab (fun k => Wa.heap.size + 2 ≤ k) (fun l => l ≤ 6) w9 (.slice (some ⟨g5, 0, none⟩) n c5) n (-2) 7 by rw [hw9]; exact ((HL3.out.keep hKf (fun k hk => by omega)).setn hrw k ⟨by omega, zz1⟩).mono (fun k hk => by omega) (fun l hl => by omega) (Int.le_refl _) (Int.le_refl _))
            have HF5 := hide (show LN (Wa.heap.size + 2) w9 (.slice B5 m d5) m (-1) 8 by rw [hw9]; exact ((HI3.out.keep hKf (fun k hk => by omega)).set9 b k ⟨zz0, by omega⟩).base9 (by omega))
            obtain ⟨hrl0, u0, u1, r0, r1, z0, z1⟩ := ((HB0.out.keep hva (by omega)).keep hk9 (by omega)).two
            obtain ⟨hrl1, p0, p1, s0, s1, x0, x1⟩ := ((HB1.out.keep hva (by omega)).keep hk9 (by omega)).two
            have HR9 := hide ((hRf.keep hk9 (by omega) (fun k hk => by omega)).mono (M := N + 170) (by omega))
            have HK9 := hide ((HK.out.trans hva).trans9 hk9 (fun k hk _ => by omega))
            have hml9 : q4 < w9.heap.size := by omega
            have hn59 : q5 < w9.heap.size := by omega
            clear hrw hRf hKf hk9 hC hv3 hva hbb
            go_upto_region 9 with fail
            rw [← hw9]
            clear hw9 hkc hkz
            go_region
            all_goals
              go_wp2_with fail
              refine bodyPost_ret (v := .tuple #[.agg #[.slice An n cn, .slice Af m cf], .agg #[.slice (some ⟨g5, 0, none⟩) n c5, .slice B5 m d5]]) (by simp only [results, Try.results51]; go_simp) rfl ?_
              exact TGot.done HT9.out HF9.out HT5.out HF5.out HR9.out HK9.out (by refine Keep.drew ?_; (repeat (first | refine Keep.set ?_ (fun _ hh => hh.1 rfl) _ | refine Keep.set ?_ (fun _ hh => hh.2 rfl) _)); exact Keep.refl _ _) (by omega) (by omega) ⟨by omega, by omega, by omega, by omega⟩
    · have hb1 : (y == 1) = false := by simp [hy1]
      go_upto_region 10 with fail
      refine wp_region_any (by kernel_rfl) ?_
      change wpAny _ _ _ _ _ _ _ (World.drew _)
      refine wpAny_take (i := 1) (v := ?_) rfl (by kernel_rfl) (by kernel_rfl) (by kernel_rfl) (by first | exact fun _ _ _ h => h | (rintro _ _ _ ⟨h, _⟩; cases h)) (Or.inl ⟨by rfl, ?hy1⟩) ?_
      case hy1 => intro w; go_simp; with_reducible rfl
      simp only [Act.put, List.getElem_toArray, List.getElem_cons_zero, List.getElem_cons_succ, List.setIfInBounds_toArray, List.set_cons_succ, List.set_cons_zero]
      refine wpAny_flt 0 3 [2] [4] (.agg #[.slice An n cn, .slice Af m cf]) (fun w => w.cell? ⟨q4, 0, none⟩ = some (.slice An n cn) ∧ w.cell? ⟨q4, 1, none⟩ = some (.slice Af m cf)) rfl (by kernel_rfl) rfl (fun _ _ _ h => h) ⟨m0, m1⟩ (And.intro (by rfl) ?hys) ?_
      case hys => intro w' hw'; obtain ⟨hk1, hk2⟩ : w'.cell? ⟨q4, 0, none⟩ = some (.slice An n cn) ∧ w'.cell? ⟨q4, 1, none⟩ = some (.slice Af m cf) := hw'; go_simp; all_goals exact rfl
      simp only [nths, nth1, Act.put, List.setIfInBounds_toArray, List.set_cons_succ, List.set_cons_zero]
      refine wpSeqC_cons fun K hK => ?_
      go_simp
      refine (anyAutomaton_any w0 br (N + 81) _ (by omega) (HRD.out.grow (Ext.refl W2).drew)).mono ?_
      rintro e W5 ⟨nx5, fn5, n5, m5, rfl, hn51, hn516, hm55, hT5, hF5, hR5, hK5⟩
      have hK5 : Keep (fun k => k ≠ br) W2 W5 := ((Ext.refl W2).drew.keep _).trans hK5
      have hsd : W2.drew.heap.size = W2.heap.size := rfl
      rw [hsd] at hT5 hF5
      obtain ⟨A5, c5, rfl, -⟩ := hT5.form
      obtain ⟨B5, d5, rfl, -⟩ := hF5.form
      refine hK _ _ ⟨(hK5.cell (p := ⟨q4, 0, none⟩) hml hq4n).trans m0, (hK5.cell (p := ⟨q4, 1, none⟩) hml hq4n).trans m1⟩ ?_
      clear hK K
      have HT := hide (HT.out.keep hK5 (fun k hk => by omega))
      have HF := hide (HF.out.keep hK5 (fun k hk => by omega))
      have HT5 := hide (hT5.mono (T := fun k => Wa.heap.size + 2 ≤ k) (Q := fun l => l ≤ 6) (lo' := -2) (hi' := 7) (fun k hk => by omega) (fun _ h => h) (Int.le_refl _) (by omega))
      have HF5 := hide (hF5.base9 (B := Wa.heap.size + 2) (by omega))
      obtain ⟨hrl0, u0, u1, r0, r1, z0, z1⟩ := (HB0.out.keep hK5 (by omega)).two
      obtain ⟨hrl1, p0, p1, s0, s1, x0, x1⟩ := (HB1.out.keep hK5 (by omega)).two
      have HRF := hide (hR5.mono (M := N + 170) (by omega))
      have HKF := hide (HK.out.trans hK5)
      clear hT5 hF5 hR5 hK5 m0 m1
      refine wpSeqC_nil ?_
      go_wp2_with fail
      refine bodyPost_ret (v := .tuple #[.agg #[.slice An n cn, .slice Af m cf], .agg #[.slice A5 n5 c5, .slice B5 m5 d5]]) (by simp only [results, Try.results51]; go_simp) rfl ?_
      exact TGot.done (HT.out.mono (fun k hk => by omega) (fun _ h => h) (Int.le_refl _) (by omega)) (HF.out.base9 (by omega)) HT5.out HF5.out HRF.out HKF.out (by (repeat (first | refine Keep.set ?_ (fun _ hh => hh.1 rfl) _ | refine Keep.set ?_ (fun _ hh => hh.2 rfl) _)); exact Keep.refl _ _) (by omega) (by omega) ⟨by omega, by omega, by omega, by omega⟩
/-- Two automata came, of a draw. -/
def D2Got (w : World) (e : Ending) (W' : World) : Prop :=
  ∃ vn vf a vn2 vf2 b, e = .returned (.tuple #[.agg #[vn, vf], .agg #[vn2, vf2]]) ∧ SRows W' vn (Au.next a) ∧ SInts W' vf a.final ∧ SRows W' vn2 (Au.next b) ∧ SInts W' vf2 b.final ∧ Ext w W'
set_option maxRecDepth 100000 in
set_option maxHeartbeats 4000000 in
theorem DrawIntersectAutomata_any (v : Value) (nb : Nat) (w : World) (hB : SBytes w v nb) : Calls Try.prog 22 #[v] w (D2Got w) := by
  have HB := hide hB
  obtain ⟨A, c, rfl, -⟩ := hB
  obtain ⟨Wa, hWa⟩ : ∃ Wa, Wa = (w.alloc (.cells #[.slice none 0 0, .slice none 0 0] 26)).alloc (.cells #[.slice none 0 0, .slice none 0 0] 26) := ⟨_, rfl⟩
  have hXa : Ext w Wa := by rw [hWa]; exact ((Ext.refl w).alloc _).alloc _
  have hsa : Wa.heap.size = w.heap.size + 2 := by rw [hWa]; simp
  have hx1 : Ext (w.alloc (.cells #[.slice none 0 0, .slice none 0 0] 26)) Wa := by rw [hWa]; exact (Ext.refl _).alloc _
  have hb0 : RB w.heap.size 2 Wa := by
    refine RB.keep (S := fun _ => True) ⟨by simp, fun i => World.frozen?_alloc_new _ _ _ _, fun i hi => ?_⟩ (hx1.keep _) trivial
    obtain rfl | rfl : i = 0 ∨ i = 1 := by omega
    all_goals exact ⟨_, World.cell?_alloc_at _ _ _ _ rfl⟩
  have hb1 : RB (w.heap.size + 1) 2 Wa := by
    rw [hWa, show w.heap.size + 1 = (w.alloc (.cells #[.slice none 0 0, .slice none 0 0] 26)).heap.size by simp]
    refine ⟨by simp, fun i => World.frozen?_alloc_new _ _ _ _, fun i hi => ?_⟩
    obtain rfl | rfl : i = 0 ∨ i = 1 := by omega
    all_goals exact ⟨_, World.cell?_alloc_at _ _ _ _ rfl⟩
  have HXa := hide hXa
  have HB0 := hide hb0
  have HB1 := hide hb1
  go_enter Try.func22, Try.ntmps22
  go_wp2_with fail
  rw [← hWa]
  clear hWa hXa hx1 hb0 hb1
  refine (newReader_any w _ _ nb HB.out HXa.out).mono ?_
  rintro e W1 ⟨br, rfl, hR1, hx1, hbr⟩
  have hbrl := hR1.lt
  have HR1 := hide hR1
  have HX1 := hide (HXa.out.trans hx1)
  have HB0 := hide (HB0.out.keep (hx1.keep (fun _ => True)) trivial)
  have HB1 := hide (HB1.out.keep (hx1.keep (fun _ => True)) trivial)
  have hs1 := hx1.size
  clear hR1 hx1
  go_wp2_with fail
  refine (twoAutomata_any w br 0 _ (by omega) HR1.out).mono ?_
  rintro e W2 ⟨vn, vf, n, m, vn2, vf2, n2, m2, rfl, hT, hF, hT2, hF2, hn, hR2, hK2⟩
  obtain ⟨An, cn, rfl, -⟩ := hT.form
  obtain ⟨Af, cf, rfl, -⟩ := hF.form
  obtain ⟨An2, cn2, rfl, -⟩ := hT2.form
  obtain ⟨Af2, cf2, rfl, -⟩ := hF2.form
  have HT := hide hT
  have HF := hide hF
  have HT2 := hide hT2
  have HF2 := hide hF2
  have HK2 := hide hK2
  obtain ⟨hrl0, u0, u1, r0, r1, z0, z1⟩ := (HB0.out.keep hK2 (by omega)).two
  obtain ⟨hrl1, p0, p1, s0, s1, x0, x1⟩ := (HB1.out.keep hK2 (by omega)).two
  clear hT hF hT2 hF2 hR2 hK2
  go_wp2_with fail
  refine bodyPost_ret (v := .tuple #[.agg #[.slice An n cn, .slice Af m cf], .agg #[.slice An2 n2 cn2, .slice Af2 m2 cf2]]) (by simp only [results, Try.results22]; go_simp) rfl ?_
  have hk : Keep (fun k => k ≠ w.heap.size ∧ k ≠ w.heap.size + 1) W2 _ := ((((Keep.refl (fun k => k ≠ w.heap.size ∧ k ≠ w.heap.size + 1) W2).set (p := ⟨w.heap.size, 0, none⟩) (fun _ hh => hh.1 rfl) (.slice An n cn)).set (p := ⟨w.heap.size, 1, none⟩) (fun _ hh => hh.1 rfl) (.slice Af m cf)).set (p := ⟨w.heap.size + 1, 0, none⟩) (fun _ hh => hh.2 rfl) (.slice An2 n2 cn2)).set (p := ⟨w.heap.size + 1, 1, none⟩) (fun _ hh => hh.2 rfl) (.slice Af2 m2 cf2)
  obtain ⟨rs, q1, q2, -⟩ := (HT.out.keep hk (fun k hk => by omega)).rows (fun l hl => by omega) (by omega) (by omega) (by omega)
  obtain ⟨xs, p1, p2, -⟩ := (HF.out.keep hk (fun k hk => by omega)).iv (by omega) (by omega) (by omega)
  obtain ⟨rs2, q3, q4, -⟩ := (HT2.out.keep hk (fun k hk => by omega)).rows (fun l hl => by omega) (by omega) (by omega) (by omega)
  obtain ⟨xs2, p3, p4, -⟩ := (HF2.out.keep hk (fun k hk => by omega)).iv (by omega) (by omega) (by omega)
  exact ⟨_, _, ⟨rs, xs⟩, _, _, ⟨rs2, xs2⟩, rfl, q2, p2.ints, q4, p4.ints, ext_of_keep9 ((HX1.out.keep (fun k => k < w.heap.size)).then HK2.out (fun k hk hs => by omega)) hk (fun k hk => by omega)⟩
set_option maxRecDepth 100000 in
set_option maxHeartbeats 4000000 in
theorem DrawShortestDifference_any (v : Value) (nb : Nat) (w : World) (hB : SBytes w v nb) : Calls Try.prog 25 #[v] w (D2Got w) := by
  have HB := hide hB
  obtain ⟨A, c, rfl, -⟩ := hB
  obtain ⟨Wa, hWa⟩ : ∃ Wa, Wa = (w.alloc (.cells #[.slice none 0 0, .slice none 0 0] 26)).alloc (.cells #[.slice none 0 0, .slice none 0 0] 26) := ⟨_, rfl⟩
  have hXa : Ext w Wa := by rw [hWa]; exact ((Ext.refl w).alloc _).alloc _
  have hsa : Wa.heap.size = w.heap.size + 2 := by rw [hWa]; simp
  have hx1 : Ext (w.alloc (.cells #[.slice none 0 0, .slice none 0 0] 26)) Wa := by rw [hWa]; exact (Ext.refl _).alloc _
  have hb0 : RB w.heap.size 2 Wa := by
    refine RB.keep (S := fun _ => True) ⟨by simp, fun i => World.frozen?_alloc_new _ _ _ _, fun i hi => ?_⟩ (hx1.keep _) trivial
    obtain rfl | rfl : i = 0 ∨ i = 1 := by omega
    all_goals exact ⟨_, World.cell?_alloc_at _ _ _ _ rfl⟩
  have hb1 : RB (w.heap.size + 1) 2 Wa := by
    rw [hWa, show w.heap.size + 1 = (w.alloc (.cells #[.slice none 0 0, .slice none 0 0] 26)).heap.size by simp]
    refine ⟨by simp, fun i => World.frozen?_alloc_new _ _ _ _, fun i hi => ?_⟩
    obtain rfl | rfl : i = 0 ∨ i = 1 := by omega
    all_goals exact ⟨_, World.cell?_alloc_at _ _ _ _ rfl⟩
  have HXa := hide hXa
  have HB0 := hide hb0
  have HB1 := hide hb1
  go_enter Try.func25, Try.ntmps25
  go_wp2_with fail
  rw [← hWa]
  clear hWa hXa hx1 hb0 hb1
  refine (newReader_any w _ _ nb HB.out HXa.out).mono ?_
  rintro e W1 ⟨br, rfl, hR1, hx1, hbr⟩
  have hbrl := hR1.lt
  have HR1 := hide hR1
  have HX1 := hide (HXa.out.trans hx1)
  have HB0 := hide (HB0.out.keep (hx1.keep (fun _ => True)) trivial)
  have HB1 := hide (HB1.out.keep (hx1.keep (fun _ => True)) trivial)
  have hs1 := hx1.size
  clear hR1 hx1
  go_wp2_with fail
  refine (twoAutomata_any w br 0 _ (by omega) HR1.out).mono ?_
  rintro e W2 ⟨vn, vf, n, m, vn2, vf2, n2, m2, rfl, hT, hF, hT2, hF2, hn, hR2, hK2⟩
  obtain ⟨An, cn, rfl, -⟩ := hT.form
  obtain ⟨Af, cf, rfl, -⟩ := hF.form
  obtain ⟨An2, cn2, rfl, -⟩ := hT2.form
  obtain ⟨Af2, cf2, rfl, -⟩ := hF2.form
  have HT := hide hT
  have HF := hide hF
  have HT2 := hide hT2
  have HF2 := hide hF2
  have HK2 := hide hK2
  obtain ⟨hrl0, u0, u1, r0, r1, z0, z1⟩ := (HB0.out.keep hK2 (by omega)).two
  obtain ⟨hrl1, p0, p1, s0, s1, x0, x1⟩ := (HB1.out.keep hK2 (by omega)).two
  clear hT hF hT2 hF2 hR2 hK2
  go_wp2_with fail
  refine bodyPost_ret (v := .tuple #[.agg #[.slice An n cn, .slice Af m cf], .agg #[.slice An2 n2 cn2, .slice Af2 m2 cf2]]) (by simp only [results, Try.results25]; go_simp) rfl ?_
  have hk : Keep (fun k => k ≠ w.heap.size ∧ k ≠ w.heap.size + 1) W2 _ := ((((Keep.refl (fun k => k ≠ w.heap.size ∧ k ≠ w.heap.size + 1) W2).set (p := ⟨w.heap.size, 0, none⟩) (fun _ hh => hh.1 rfl) (.slice An n cn)).set (p := ⟨w.heap.size, 1, none⟩) (fun _ hh => hh.1 rfl) (.slice Af m cf)).set (p := ⟨w.heap.size + 1, 0, none⟩) (fun _ hh => hh.2 rfl) (.slice An2 n2 cn2)).set (p := ⟨w.heap.size + 1, 1, none⟩) (fun _ hh => hh.2 rfl) (.slice Af2 m2 cf2)
  obtain ⟨rs, q1, q2, -⟩ := (HT.out.keep hk (fun k hk => by omega)).rows (fun l hl => by omega) (by omega) (by omega) (by omega)
  obtain ⟨xs, p1, p2, -⟩ := (HF.out.keep hk (fun k hk => by omega)).iv (by omega) (by omega) (by omega)
  obtain ⟨rs2, q3, q4, -⟩ := (HT2.out.keep hk (fun k hk => by omega)).rows (fun l hl => by omega) (by omega) (by omega) (by omega)
  obtain ⟨xs2, p3, p4, -⟩ := (HF2.out.keep hk (fun k hk => by omega)).iv (by omega) (by omega) (by omega)
  exact ⟨_, _, ⟨rs, xs⟩, _, _, ⟨rs2, xs2⟩, rfl, q2, p2.ints, q4, p4.ints, ext_of_keep9 ((HX1.out.keep (fun k => k < w.heap.size)).then HK2.out (fun k hk hs => by omega)) hk (fun k hk => by omega)⟩
end Go.Proofs.Ytdiedghaoleblaa
