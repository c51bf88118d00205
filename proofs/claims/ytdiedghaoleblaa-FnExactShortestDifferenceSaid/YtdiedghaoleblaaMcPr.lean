/- The product of two machines, in the reference. -/
import Derived.Test.YtdiedghaoleblaaMcN
namespace Go.Proofs.Ytdiedghaoleblaa
open Go.RowKit

/-- One row of the product. -/
def prR (m m' : Mc) (p : Nat) : List Int := (List.range 6).map fun v => ((mT m (p / m'.nx.length) v * m'.nx.length + mT m' (p % m'.nx.length) v : Nat) : Int)
/-- The product of two machines; f joins the answers. -/
def prM (f : Bool → Bool → Bool) (m m' : Mc) : Mc := ⟨(List.range (m.nx.length * m'.nx.length)).map (prR m m'), (List.range (m.nx.length * m'.nx.length)).map fun p => f (mF m (p / m'.nx.length)) (mF m' (p % m'.nx.length))⟩
theorem prM_len (f : Bool → Bool → Bool) (m m' : Mc) : (prM f m m').nx.length = m.nx.length * m'.nx.length := by simp [prM]
theorem prM_flen (f : Bool → Bool → Bool) (m m' : Mc) : (prM f m m').fin.length = m.nx.length * m'.nx.length := by simp [prM]
theorem prM_row (f : Bool → Bool → Bool) {m m' : Mc} {p : Nat} (hp : p < m.nx.length * m'.nx.length) : rw0 (prM f m m').nx p = prR m m' p := by
  unfold rw0
  rw [getD_lt _ _ (by rw [prM_len]; exact hp)]
  simp [prM]
theorem prR_len (m m' : Mc) (p : Nat) : (prR m m' p).length = 6 := by simp [prR]
theorem prR_at (m m' : Mc) (p : Nat) {v : Nat} (hv : v < 6) : at0 (prR m m' p) v = ((mT m (p / m'.nx.length) v * m'.nx.length + mT m' (p % m'.nx.length) v : Nat) : Int) := by
  unfold at0
  rw [getD_lt _ _ (by rw [prR_len]; exact hv)]
  simp [prR]
theorem pr_lt {n n' a b : Nat} (ha : a < n) (hb : b < n') : a * n' + b < n * n' := by
  have h1 : (a + 1) * n' ≤ n * n' := Nat.mul_le_mul_right _ ha
  rw [Nat.succ_mul] at h1
  omega
theorem pr_div {n n' p : Nat} (hp : p < n * n') : p / n' < n := Nat.div_lt_of_lt_mul (by rw [Nat.mul_comm]; exact hp)
theorem prM_ok (f : Bool → Bool → Bool) {m m' : Mc} (hm : MOk m) (hm' : MOk m') (hle : m.nx.length * m'.nx.length ≤ 100) : MOk (prM f m m') := by
  refine ⟨by rw [prM_len]; exact Nat.mul_pos hm.pos hm'.pos, by rw [prM_len]; exact hle, by rw [prM_len, prM_flen], fun i hi => ?_, fun i hi j hj => ?_⟩
  · rw [prM_len] at hi
    rw [prM_row f hi, prR_len]
  · rw [prM_len] at hi ⊢
    rw [prM_row f hi, prR_at _ _ _ hj]
    have h1 := hm.lt (pr_div hi) hj
    have h2 := hm'.lt (Nat.mod_lt i hm'.pos) hj
    have := pr_lt h1 h2
    omega
theorem prM_rows_succ (f : Bool → Bool → Bool) {m m' : Mc} {p : Nat} (hp : p < m.nx.length * m'.nx.length) : (prM f m m').nx.take p ++ [prR m m' p] = (prM f m m').nx.take (p + 1) := by
  rw [List.take_add_one, List.getElem?_eq_getElem (by rw [prM_len]; exact hp)]
  simp [prM]
theorem prM_fins_succ (f : Bool → Bool → Bool) {m m' : Mc} {p : Nat} (hp : p < m.nx.length * m'.nx.length) : (prM f m m').fin.take p ++ [f (mF m (p / m'.nx.length)) (mF m' (p % m'.nx.length))] = (prM f m m').fin.take (p + 1) := by
  rw [List.take_add_one, List.getElem?_eq_getElem (by rw [prM_flen]; exact hp)]
  simp [prM]
theorem prM_rtake (f : Bool → Bool → Bool) (m m' : Mc) {p : Nat} (hp : p ≤ m.nx.length * m'.nx.length) : ((prM f m m').nx.take p).length = p := by rw [List.length_take, prM_len]; omega
theorem prM_ftake (f : Bool → Bool → Bool) (m m' : Mc) {p : Nat} (hp : p ≤ m.nx.length * m'.nx.length) : ((prM f m m').fin.take p).length = p := by rw [List.length_take, prM_flen]; omega
set_option maxRecDepth 100000 in
set_option maxHeartbeats 16000000 in
theorem product_any (vn1 vf1 vn2 vf2 : Value) (m m' : Mc) (w : World) (hM1 : RdM w vn1 vf1 m) (hM2 : RdM w vn2 vf2 m') (hle : m.nx.length * m'.nx.length ≤ 100) :
    Calls Try.prog 53 #[.agg #[vn1, vf1], .agg #[vn2, vf2]] w (NewMc (prM and m m') w) := by
  obtain ⟨b1, o1, c1, g1, q1, d1, rfl, rfl, hb1, hg1, hc1, hd1, hR1, hF1, hm1⟩ := hM1
  obtain ⟨b2, o2, c2, g2, q2, d2, rfl, rfl, hb2, hg2, hc2, hd2, hR2, hF2, hm2⟩ := hM2
  have HR1 := hide hR1
  have HR2 := hide hR2
  have HF1 := hide hF1
  have HF2 := hide hF2
  have HM1 := hide hm1
  have HM2 := hide hm2
  obtain ⟨N, hN⟩ : ∃ N, N = m.nx.length * m'.nx.length := ⟨_, rfl⟩
  have hNb : N ≤ 100 := by omega
  have kN : (m.nx.length : Int) * (m'.nx.length : Int) = (N : Int) := by rw [hN]; simp
  have HN := hide hN
  have hp1 := hm1.pos
  have hp2 := hm2.pos
  have hnil : ¬ m'.nx = [] := fun e => by rw [e] at hp2; exact absurd hp2 (by simp)
  have hl1 := hm1.le
  have hl2 := hm2.le
  clear hR1 hR2 hF1 hF2 hm1 hm2 hN hle
  have h0 := (((((((Apt.nil_ (Ext.refl w)).newC [.slice (some ⟨b1, o1, none⟩) m.nx.length c1, .slice (some ⟨g1, q1, none⟩) m.nx.length d1] 59 rfl).newC [.slice (some ⟨b2, o2, none⟩) m'.nx.length c2, .slice (some ⟨g2, q2, none⟩) m'.nx.length d2] 59 rfl).newC [.slice none 0 0, .slice none 0 0] 59 rfl).newC [.slice none 0 0, .slice none 0 0] 59 rfl)).nilW w.heap.size (fun _ => 0)).nilB w.heap.size
  simp only [World.size_alloc] at h0
  have H0 := hide h0
  clear h0
  go_enter Try.func53, Try.ntmps53
  go_wp2
  go_loopw [7] (fun i wr => ∃ (p : Nat) (vR vB : Value) (kb : Nat → Nat), i = .int .i64 p ∧ p ≤ N ∧
    Apt w wr [iB w.heap.size vB ((prM and m m').fin.take p), iW w.heap.size vR ((prM and m m').nx.take p) kb, iC (w.heap.size + 1 + 1 + 1) [vR, vB], iC (w.heap.size + 1 + 1) [.slice none 0 0, .slice none 0 0], iC (w.heap.size + 1) [.slice (some ⟨b2, o2, none⟩) m'.nx.length c2, .slice (some ⟨g2, q2, none⟩) m'.nx.length d2], iC w.heap.size [.slice (some ⟨b1, o1, none⟩) m.nx.length c1, .slice (some ⟨g1, q1, none⟩) m.nx.length d1]]) (fun i _ => 200 - (intOf i).toNat)
  case atStart => exact ⟨0, .slice none 0 0, .slice none 0 0, fun _ => 0, rfl, by omega, H0.out⟩
  case round =>
    obtain ⟨p, vR, vB, kb, rfl, hp, hA⟩ := hrel
    obtain ⟨W0, rfl⟩ : ∃ W0, W0 = wr := ⟨wr, rfl⟩
    have HA := hide hA
    have m0 := (hA.cellC 5 rfl 0 rfl).1
    by_cases hlt : p < N
    · have hkI : (p : Int) < N := by omega
      have hpN : p < m.nx.length * m'.nx.length := by have := HN.out; omega
      obtain ⟨i, hi⟩ : ∃ i, i = p / m'.nx.length := ⟨_, rfl⟩
      obtain ⟨j, hj⟩ : ∃ j, j = p % m'.nx.length := ⟨_, rfl⟩
      have hin : i < m.nx.length := by rw [hi]; exact pr_div hpN
      have hjn : j < m'.nx.length := by rw [hj]; exact Nat.mod_lt p hp2
      have hinI : (i : Int) < m.nx.length := by omega
      have hjnI : (j : Int) < m'.nx.length := by omega
      have kq : (p : Int).tdiv (m'.nx.length : Int) = (i : Int) := by rw [hi]; rfl
      have kr : (p : Int).tmod (m'.nx.length : Int) = (j : Int) := by rw [hj]; rfl
      have kq2 : (p : Int) / (m'.nx.length : Int) = (i : Int) := by rw [hi]; rfl
      have kr2 : (p : Int) % (m'.nx.length : Int) = (j : Int) := by rw [hj]; rfl
      have kwi := IntWalk.i64_in (i : Int) (by omega)
      have kwj := IntWalk.i64_in (j : Int) (by omega)
      have HPN := hide hpN
      have HI := hide hi
      have HJ := hide hj
      clear hA hpN hi hj
      go_wp2_with (at_make; go_must (refine wpList_make_gen _ rfl _ _ 24 rfl 3 (.int .i64 0) 1 8 Try.underlying24 Try.infoI .i64 .i64 6 rfl rfl (by omega) (by omega) (fun _ => .int .i64 0) (fun i _ => by simp [Value.cells, Nat.mod_one]) ?_); intro w3 hrow hsz hx)
      have hbr : w.heap.size ≤ W0.heap.size := HA.out.ext.size
      have H3 := HA.out.mkR hrow (Nat.le_refl _) hx
      obtain ⟨br, hbre⟩ : ∃ br, br = W0.heap.size := ⟨_, rfl⟩
      rw [← hbre] at H3 hbr ⊢
      clear hrow hsz hx hbre
      obtain ⟨r, hr⟩ : ∃ r, r = prR m m' p := ⟨_, rfl⟩
      have HRE := hide hr
      have hrl := hide (show r.length = 6 by rw [hr]; exact prR_len _ _ _)
      have H3 := hide (H3.congrR 0 rfl (g := tR r 0) (fun j _ => by unfold tR; rw [if_neg (by omega)]))
      clear m0 hr
      go_wp2
      go_loopw [9] (fun i wi => ∃ u : Nat, i = .int .i64 u ∧ u ≤ 6 ∧ Apt w wi (iR br 3 6 (tR r u) :: [iB w.heap.size vB ((prM and m m').fin.take p), iW w.heap.size vR ((prM and m m').nx.take p) kb, iC (w.heap.size + 1 + 1 + 1) [vR, vB], iC (w.heap.size + 1 + 1) [.slice none 0 0, .slice none 0 0], iC (w.heap.size + 1) [.slice (some ⟨b2, o2, none⟩) m'.nx.length c2, .slice (some ⟨g2, q2, none⟩) m'.nx.length d2], iC w.heap.size [.slice (some ⟨b1, o1, none⟩) m.nx.length c1, .slice (some ⟨g1, q1, none⟩) m.nx.length d1]])) (fun i _ => 6 - (intOf i).toNat)
      case atStart => exact ⟨0, rfl, by omega, H3.out⟩
      case round =>
        obtain ⟨u, rfl, hu, hA⟩ := hrel
        obtain ⟨W1, rfl⟩ : ∃ W1, W1 = wr := ⟨wr, rfl⟩
        have HA := hide hA
        by_cases hul : u < 6
        · have huI : (u : Int) ≤ 5 := by omega
          have huI6 : (u : Int) < 6 := by omega
          have c0 := (show W1.rowIs br 3 6 _ from hA.p 0 _ rfl).cell (i := u) hul
          have z0 := (show W1.rowIs br 3 6 _ from hA.p 0 _ rfl).frozen u
          have hbrW : br < W1.heap.size := (hA.d 0 _ rfl br rfl).2
          have m1 := (hA.cellC 6 rfl 0 rfl).1
          have m2 := (hA.cellC 5 rfl 0 rfl).1
          have hw1 : w.heap.size < W1.heap.size := (hA.d 6 _ rfl w.heap.size rfl).2
          have hw2 : w.heap.size + 1 < W1.heap.size := (hA.d 5 _ rfl (w.heap.size + 1) rfl).2
          obtain ⟨b3, o3, c3, f1, hb3, hc3, f2⟩ := HR1.out i hin
          obtain ⟨b4, o4, c4, f3, hb4, hc4, f4⟩ := HR2.out j hjn
          have f1 := (hA.ext.cells _ _ hb1).trans f1
          have f2 := (hA.ext.cells _ _ hb3).trans (f2 u hul)
          have f3 := (hA.ext.cells _ _ hb2).trans f3
          have f4 := (hA.ext.cells _ _ hb4).trans (f4 u hul)
          have hxs := hA.ext.size
          obtain ⟨x, hx⟩ : ∃ x, x = mT m i u := ⟨_, rfl⟩
          obtain ⟨y, hy⟩ : ∃ y, y = mT m' j u := ⟨_, rfl⟩
          have hxn : x < m.nx.length := by rw [hx]; exact HM1.out.lt hin hul
          have hyn : y < m'.nx.length := by rw [hy]; exact HM2.out.lt hjn hul
          obtain ⟨X, hX⟩ : ∃ X, X = x * m'.nx.length := ⟨_, rfl⟩
          have hXy : X + y < N := by have := pr_lt hxn hyn; have := HN.out; omega
          have kX : (x : Int) * (m'.nx.length : Int) = (X : Int) := by rw [hX]; simp
          have hat : (X : Int) + (y : Int) = at0 r u := by rw [HRE.out, prR_at _ _ _ hul, ← HI.out, ← HJ.out, ← hx, ← hy, ← hX]; simp
          have HAT := hide hat
          rw [← hx] at f2
          rw [← hy] at f4
          have hb1W : b1 < W1.heap.size := by omega
          have hb2W : b2 < W1.heap.size := by omega
          have hb3W : b3 < W1.heap.size := by omega
          have hb4W : b4 < W1.heap.size := by omega
          clear hA hat hx hy hX
          go_wp2
          refine wp_region_any (by kernel_rfl) ?_
          change wpAny _ _ _ _ _ _ _ (World.drew _)
          refine wpAny_ix ((Ext.refl _).drew) 26 [0,1,2,3,4,5,6,7,8,9,10,11,12,13,14,15,16,17,18,19,20,21,22,23,24,25] [26] (by kernel_rfl) rfl ?_; simp only [nths, nth1]
          iterate 26 (apply quiet_val; (focus rfl); (focus (intro w' hw'; have hk' := hw'.cells; go_simp; all_goals exact rfl)); simp only [Act.put, List.setIfInBounds_toArray, List.set_cons_succ, List.set_cons_zero])
          refine wpQuiet_nil ?_
          intro w5 hx5
          have H5 := hide (HA.out.grow hx5)
          have c0 := (show w5.rowIs br 3 6 _ from H5.out.p 0 _ rfl).cell (i := u) hul
          have z0 := (show w5.rowIs br 3 6 _ from H5.out.p 0 _ rfl).frozen u
          clear m1 m2 hx5 f1 f2 f3 f4
          go_wp2
          go_roundw
          case rel => exact ⟨u + 1, by go_num, by omega, (H5.out.setR 0 rfl u (.int .i64 ((X : Int) + (y : Int)))).congrR 0 rfl (fun j _ => by rw [← tR1_done HAT.out]; rfl)⟩
          case measure => simp [intOf]; omega
        · obtain rfl : u = 6 := by omega
          have HRV := hide (tR_row hrl.out (show W1.rowIs br 3 6 _ from hA.p 0 _ rfl) hbr)
          have HPL := hide (Nat.le_of_lt HPN.out)
          obtain ⟨An, cn, hvn, -⟩ := (show OwnW w.heap.size W1 vR ((prM and m m').nx.take p) kb from hA.p 2 _ rfl).form
          rw [prM_rtake and m m' HPL.out] at hvn
          subst hvn
          obtain ⟨Ab, cb, hvb, -⟩ := (show AppB w.heap.size W1 vB ((prM and m m').fin.take p) from hA.p 1 _ rfl).form
          rw [prM_ftake and m m' HPL.out] at hvb
          subst hvb
          have hne : ∀ i, i < ((prM and m m').nx.take p).length → (Value.slice (some ⟨br, 0, none⟩) 6 6).ownBlock ≠ some (kb i) := fun i hi e => hA.ap 0 2 _ _ rfl rfl (by omega) (kb i) (by injection e with e; exact e.symm) (.inr ⟨i, hi, rfl⟩)
          have HNE := hide hne
          have n0 := (hA.cellC 3 rfl 0 rfl).1
          have H7 := hide (HA.out.grow ((Ext.refl _).alloc (.cells #[.slice (some ⟨br, 0, none⟩) 6 6] 24)))
          clear hA hne
          go_wp2_with (at_builtin; go_must (refine wpList_appW _ rfl _ _ rfl w.heap.size _ ((prM and m m').nx.take p) kb r (.slice (some ⟨br, 0, none⟩) 6 6) _ 1 rfl rfl (H7.out.p 2 _ rfl) (by go_simp) (HRV.out.ext ((Ext.refl _).alloc _)) (by rw [prM_rtake and m m' HPL.out]; omega) (by have := H7.out.ext.size; exact this) HNE.out ?_); intro v' w7 kb' hA7 h17 h27 hg7 ho7; have H8 := hide (H7.out.addW (rv := .slice (some ⟨br, 0, none⟩) 6 6) (fun k => ⟨fun h => by rw [show k = br from h]; rfl, fun h => by injection h with h; exact h.symm⟩) 1 rfl hA7 h17 h27 hg7 ho7); rw [HRE.out, prM_rows_succ and HPN.out] at hA7 H8; have p0 := (H8.out.cellC 2 rfl 0 rfl).1; have y0 := (H8.out.cellC 2 rfl 0 rfl).2; obtain ⟨A8, c8, hv8, -⟩ := hA7.form; rw [prM_rtake and m m' HPN.out] at hv8; subst hv8; clear hA7 h17 h27 hg7 ho7)
          have H9 := hide (H8.out.set 2 (w.heap.size + 1 + 1 + 1) _ rfl 0 (.slice A8 (p + 1) c8) (by simp))
          generalize hW8 : w7.setCell ⟨w.heap.size + 1 + 1 + 1, 0, none⟩ (.slice A8 (p + 1) c8) = W8 at *
          clear hW8 p0 y0 n0
          have n1 := (H9.out.cellC 2 rfl 1 rfl).1
          have hmW : w.heap.size + 1 + 1 + 1 < W8.heap.size := (H9.out.d 2 _ rfl (w.heap.size + 1 + 1 + 1) rfl).2
          have n2 := (H9.out.cellC 5 rfl 1 rfl).1
          have n3 := (H9.out.cellC 4 rfl 1 rfl).1
          have ha1 : w.heap.size < W8.heap.size := (H9.out.d 5 _ rfl w.heap.size rfl).2
          have ha2 : w.heap.size + 1 < W8.heap.size := (H9.out.d 4 _ rfl (w.heap.size + 1) rfl).2
          have f1 := (H9.out.ext.cells _ _ hg1).trans (HF1.out i hin)
          have f3 := (H9.out.ext.cells _ _ hg2).trans (HF2.out j hjn)
          have hxs := H9.out.ext.size
          have hg1W : g1 < W8.heap.size := by omega
          have hg2W : g2 < W8.heap.size := by omega
          obtain ⟨bv, hbv⟩ : ∃ bv, bv = mF m' j := ⟨_, rfl⟩
          rw [← hbv] at f3
          obtain ⟨bf, hbf⟩ : ∃ bf, bf = mF m i := ⟨_, rfl⟩
          rw [← hbf] at f1
          have HBF := hide hbf
          have HBV := hide hbv
          clear hbf hbv
          go_wp2
          refine wp_region_any (by kernel_rfl) ?_
          change wpAny _ _ _ _ _ _ _ (World.drew _)
          refine wpAny_take (i := 0) (v := ?_) rfl (by kernel_rfl) (by kernel_rfl) (by kernel_rfl) (by first | exact fun _ _ _ h => h | (rintro _ _ _ ⟨h, _⟩; cases h)) (Or.inl ⟨by rfl, ?hy0⟩) ?_
          case hy0 => intro w; go_simp; with_reducible rfl
          simp only [Act.put, List.getElem_toArray, List.getElem_cons_zero, List.setIfInBounds_toArray, List.set_cons_succ, List.set_cons_zero]
          refine wpAny_ixF ((Ext.refl _).drew) 18 1 [2,3,4,5,6,7,8,9,10,11,12,13,14,15,16,17] [19,20,21] (.slice Ab p cb) rfl rfl (by kernel_rfl) rfl (And.intro (by rfl) ?hys) ?_
          case hys => intro w' hw'; have hk' := hw'.cells; go_simp; all_goals exact rfl
          simp only [nths, nth1, Act.put, List.setIfInBounds_toArray, List.set_cons_succ, List.set_cons_zero]
          iterate 8 (apply quiet_val; (focus rfl); (focus (intro w' hw'; have hk' := hw'.cells; go_simp; all_goals exact rfl)); simp only [Act.put, List.setIfInBounds_toArray, List.set_cons_succ, List.set_cons_zero])
          rcases (show bf = true ∨ bf = false by cases bf <;> simp) with e | e
          · subst e
            have HDE := hide (show bv = and (mF m (p / m'.nx.length)) (mF m' (p % m'.nx.length)) by rw [← HI.out, ← HJ.out, ← HBF.out, ← HBV.out]; simp)
            iterate 8 (apply quiet_val; (focus rfl); (focus (intro w' hw'; have hk' := hw'.cells; go_simp; all_goals exact rfl)); simp only [Act.put, List.setIfInBounds_toArray, List.set_cons_succ, List.set_cons_zero])
            refine wpQuiet_nil ?_
            intro w9 hx9
            refine ⟨_, _, by go_simp; first | exact rfl | exact ⟨rfl, rfl⟩, (hx9.alloc _), ?_⟩; simp only [List.setIfInBounds_toArray, List.set_cons_succ, List.set_cons_zero]
            have H10 := hide (H9.out.grow (hx9.alloc (.cells #[.bool bv] 4)))
            clear n1 n2 n3 hmW ha1 ha2 hx9 f1 f3 hxs hg1W hg2W kq kr kq2 kr2 kwi kwj kN hinI hjnI hin hjn
            go_wp2_with (at_builtin; go_must (refine wpList_appBO _ rfl _ _ rfl w.heap.size _ ((prM and m m').fin.take p) bv _ 1 rfl rfl (H10.out.p 0 _ rfl) (by go_simp) (by rw [prM_ftake and m m' HPL.out]; omega) (by have := H10.out.ext.size; exact this) ?_); intro v' w7 hA7 hg7 ho7; have H11 := hide (H10.out.appB 0 rfl hA7 hg7 ho7); rw [HDE.out, prM_fins_succ and HPN.out] at hA7 H11; have p1 := (H11.out.cellC 2 rfl 1 rfl).1; have y1 := (H11.out.cellC 2 rfl 1 rfl).2; obtain ⟨A9, c9, hv9, -⟩ := hA7.form; rw [prM_ftake and m m' HPN.out] at hv9; subst hv9; clear hA7 hg7 ho7)
            go_wp2
            go_roundw
            case rel => exact ⟨p + 1, .slice A8 (p + 1) c8, .slice A9 (p + 1) c9, kb', by go_num, by omega, H11.out.set 2 (w.heap.size + 1 + 1 + 1) _ rfl 1 _ (by simp)⟩
            case measure => simp [intOf]; omega
          · skip
            have HDE := hide (show false = and (mF m (p / m'.nx.length)) (mF m' (p % m'.nx.length)) by rw [← HI.out, ← HJ.out, ← HBF.out, e]; simp)
            iterate 7 (refine BigFrame.wpQuiet_skip (by subst e; rfl) ?_; (simp only [Act.put, List.setIfInBounds_toArray, List.set_cons_succ, List.set_cons_zero]))
            (apply quiet_val; (focus rfl); (focus (intro w' hw'; have hk' := hw'.cells; go_simp; all_goals exact rfl)); simp only [Act.put, List.setIfInBounds_toArray, List.set_cons_succ, List.set_cons_zero])
            refine wpQuiet_nil ?_
            intro w9 hx9
            refine ⟨_, _, by go_simp; first | exact rfl | exact ⟨rfl, rfl⟩, (hx9.alloc _), ?_⟩; simp only [List.setIfInBounds_toArray, List.set_cons_succ, List.set_cons_zero]
            have H10 := hide (H9.out.grow (hx9.alloc (.cells #[.bool false] 4)))
            clear n1 n2 n3 hmW ha1 ha2 hx9 f1 f3 hxs hg1W hg2W kq kr kq2 kr2 kwi kwj kN hinI hjnI hin hjn
            go_wp2_with (at_builtin; go_must (refine wpList_appBO _ rfl _ _ rfl w.heap.size _ ((prM and m m').fin.take p) false _ 1 rfl rfl (H10.out.p 0 _ rfl) (by go_simp) (by rw [prM_ftake and m m' HPL.out]; omega) (by have := H10.out.ext.size; exact this) ?_); intro v' w7 hA7 hg7 ho7; have H11 := hide (H10.out.appB 0 rfl hA7 hg7 ho7); rw [HDE.out, prM_fins_succ and HPN.out] at hA7 H11; have p1 := (H11.out.cellC 2 rfl 1 rfl).1; have y1 := (H11.out.cellC 2 rfl 1 rfl).2; obtain ⟨A9, c9, hv9, -⟩ := hA7.form; rw [prM_ftake and m m' HPN.out] at hv9; subst hv9; clear hA7 hg7 ho7)
            go_wp2
            go_roundw
            case rel => exact ⟨p + 1, .slice A8 (p + 1) c8, .slice A9 (p + 1) c9, kb', by go_num, by omega, H11.out.set 2 (w.heap.size + 1 + 1 + 1) _ rfl 1 _ (by simp)⟩
            case measure => simp [intOf]; omega
    · obtain rfl : p = N := by omega
      have hkI : ¬ (p : Int) < p := by omega
      have hm := prM_ok and HM1.out HM2.out (by have := HN.out; omega)
      have hRW := (show OwnW w.heap.size W0 vR ((prM and m m').nx.take p) kb from hA.p 1 _ rfl)
      have hFB := (show AppB w.heap.size W0 vB ((prM and m m').fin.take p) from hA.p 0 _ rfl)
      rw [List.take_of_length_le (by rw [prM_len, ← HN.out]; exact Nat.le_refl _)] at hRW
      rw [List.take_of_length_le (by rw [prM_flen, ← HN.out]; exact Nat.le_refl _)] at hFB
      have hRM := RdM.grown hm hRW hFB
      have HRM := hide hRM
      obtain ⟨An, cn, rfl, -⟩ := hRW.form
      obtain ⟨Ab, cb, rfl, -⟩ := hFB.form
      have n0 := (hA.cellC 2 rfl 0 rfl).1
      have n1 := (hA.cellC 2 rfl 1 rfl).1
      obtain ⟨r0, y0⟩ := hA.cellC 3 rfl 0 rfl
      obtain ⟨r1, y1⟩ := hA.cellC 3 rfl 1 rfl
      have m0 := (hA.cellC 5 rfl 0 rfl).1
      have hrs : w.heap.size + 1 + 1 < W0.heap.size := (hA.d 3 _ rfl (w.heap.size + 1 + 1) rfl).2
      have HX := hide hA.ext
      clear hA hRW hFB hRM hm
      obtain ⟨lr, hlr⟩ : ∃ lr, lr = (prM and m m').nx.length := ⟨_, rfl⟩
      obtain ⟨lf, hlf⟩ : ∃ lf, lf = (prM and m m').fin.length := ⟨_, rfl⟩
      rw [← hlr] at n0 HRM
      rw [← hlf] at n1 HRM
      have HAP := hide HA.out
      rw [← hlr, ← hlf] at HAP
      have HLR := hide hlr
      have HLF := hide hlf
      clear hlr hlf
      go_wp2
      refine bodyPost_ret (v := .agg #[.slice An lr cn, .slice Ab lf cb]) ?res rfl ?_
      case res =>
        unfold results
        simp only [Try.f53]
        go_simp
      have h9 := ((HAP.out.set 3 (w.heap.size + 1 + 1) _ rfl 0 (.slice An lr cn) (by simp)).set 3 (w.heap.size + 1 + 1) _ rfl 1 (.slice Ab lf cb) (by simp))
      have e1 : (prM and m m').nx.take p = (prM and m m').nx := List.take_of_length_le (by rw [prM_len, ← HN.out]; exact Nat.le_refl _)
      have e2 : (prM and m m').fin.take p = (prM and m m').fin := List.take_of_length_le (by rw [prM_flen, ← HN.out]; exact Nat.le_refl _)
      rw [e1, e2] at h9
      refine ⟨_, _, rfl, ?_, h9.ext⟩
      have q := RdM.grown (prM_ok and HM1.out HM2.out (by have := HN.out; omega)) (show OwnW w.heap.size _ (.slice An lr cn) (prM and m m').nx kb from h9.p 1 _ rfl) (show AppB w.heap.size _ (.slice Ab lf cb) (prM and m m').fin from h9.p 0 _ rfl)
      exact q
end Go.Proofs.Ytdiedghaoleblaa
